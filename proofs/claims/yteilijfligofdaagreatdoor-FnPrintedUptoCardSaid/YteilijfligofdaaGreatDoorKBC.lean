/- Texts QhG QhH QhI QiA QiB QiT QiE QbO QiF QiG QiH QiI QbP QbQ QbR, merged. -/
import Derived.Test.YteilijfligofdaaGreatDoorKBB
import Derived.Test.YteilijfligofdaaGreatDoorChecked
import Derived.KernelRfl
set_option linter.all false
namespace Go.Proofs.YteilijfligofdaaGreatDoor.Pg
open Go.AM
theorem uL {w:Tok} {g:TK} (h:w.b=g):w.t=g.2.1:=congrArg (fun g:TK=>g.2.1) h
theorem ags {w:Tok} {g:TK} (h:w.b=g):w.n=g.2.2:=congrArg (fun g:TK=>g.2.2) h
theorem er1 {k n p z} {a:aa} (h:a.er=z):(node1 k n p a).er=.mk k n 0 [] 0 [z] []:=by rw[node1,aa.er,aa.cT,aa.cT,aa.oA,h]
theorem er2 {k n p z1 z2} {a b:aa} (h:a.er=z1) (h2:b.er=z2):(node2 k n p a b).er=.mk k n 0 [] 0 [z1,z2] []:=by rw[node2,aa.er,aa.cT,aa.cT,aa.cT,aa.oA,h,h2]
def rI (a:TF×TF):List TK:=a.1.at 0++(cb [45,62]::a.2.at 0)
def uM (a:TF×TF):Nat:=max (a.1.qa 0+1) (a.2.qa 0+1)
section
variable {T:List Tok} {N most:Nat} (hT:bH T) (hN:T.length<=N)
include hT hN
theorem rJ {g:TK} {z:aa} (h:X6 T N most [g] z 0) (hp:K5 g=false) (h4:tK 4 g=false) (hs:xi g=true):RX T N most ⟨[g],6,false,0⟩ z:=X8 hT hN h (XY hT hN false h rfl hp h4) hs
theorem X9 {u:Int}:RX T N most (gd 1 [] u [] [] []) (.mk 1 [] u [] 0 [] []):=rJ hT hN (fun K d hK hd=>cf fun w hw=>gg (cF _) rfl (dw (by rw[leaf,aa.er,ags hw];rfl))) rfl rfl rfl
theorem Ya {t:List UInt8}:RX T N most (gd 2 [] 0 t [] []) (.mk 2 [] 0 t 0 [] []):=rJ hT hN (fun K d hK hd=>cf fun w hw=>bX (cF _) rfl<|gg (cF _) rfl (dw (by rw[leaf,aa.er,uL hw];rfl))) rfl rfl rfl
theorem S5 {u:Int} (h0:0<=u) (h1:u<=1):RX T N most (gd 3 [] u [] [] []) (.mk 3 [] u [] 0 [] []):=by
 have:u=0\/u=1:=by omega
 rcases this with rfl|rfl
 ·exact rJ hT hN (g:=fN [102,97,108,115,101]) (fun K d hK hd=>cf fun w hw=>bX (cF _) rfl<|bX (cF _) rfl<|bX (bU _) rfl<|gg (bU _) rfl (dw rfl)) rfl rfl rfl
 ·exact rJ hT hN (g:=fN [116,114,117,101]) (fun K d hK hd=>cf fun w hw=>bX (cF _) rfl<|bX (cF _) rfl<|gg (bU _) rfl (dw rfl)) rfl rfl rfl
theorem S6:RX T N most (gd 4 [] 0 [] [] []) (.mk 4 [] 0 [] 0 [] []):=by
 have h:X6 T N most [cb [40],cb [41]] (.mk 4 [] 0 [] 0 [] []) 0:=fun K d hK hd=>by
  unfold fy;refine cf fun w hw=>bX (cF _) rfl<|bX (cF _) rfl<|bX (bU _) rfl<|bX (bU _) rfl<|bX (cF _) rfl<|bX (cF _) rfl<|bX (bU _) rfl ?_
  unfold DP;exact cf fun w hw=>eQ rfl<|gg (bU _) rfl (dw rfl)
 exact X8 hT hN h (XY hT hN false h rfl rfl rfl) rfl
theorem Yb {n:List UInt8}:RX T N most (gd 5 n 0 [] [] []) (.mk 5 n 0 [] 0 [] []):=rJ hT hN (fun K d hK hd=>cf fun w hw=>bX (cF _) rfl<|bX (cF _) rfl<|bX (bU _) rfl<|bX (bU _) rfl<|gg (cF _) rfl (dw (by rw[leaf,aa.er,uL hw];rfl))) rfl rfl rfl
theorem S7:RX T N most (gd 15 [114,101,97,100] 0 [] [] []) (.mk 15 [114,101,97,100] 0 [] 0 [] []):=rJ hT hN (g:=fN [114,101,97,100]) (fun K d hK hd=>cf fun w hw=>bX (cF _) rfl<|bX (cF _) rfl<|bX (bU _) rfl<|bX (bU _) rfl<|bX (cF _) rfl<|bX (cF _) rfl<|gg (bU _) rfl (dw (by rw[leaf,aa.er,uL hw];rfl))) rfl rfl rfl
theorem O9 {n:List UInt8}:RX T N most (gd 6 n 0 [] [] []) (.mk 6 n 0 [] 0 [] []):=by
 refine X8 (g:=zX n) (r:=[]) (b:=true) (q:=0) hT hN (fun K d hK hd=>?_) (fun K d hK hd=>?_) rfl
 ·exact cf fun w hw=>bX (cF _) rfl<|bX (cF _) rfl<|bX (bU _) rfl<|bX (bU _) rfl<|bX (cF _) rfl<|gg (cF _) rfl (dw (by rw[leaf,aa.er,uL hw];rfl))
 ·have hs:=cE (N:=N) hT most K (d+1)
  refine EX (m:=sZ T N (fm T N most K (d+1))) (cf fun w hw=>bX yC rfl<|gg (cF _) rfl<|Gf Gb (fun h hh=>?_) (dw (by rw[leaf,aa.er,uL hw];rfl))) (fun a=>uK hT hN N a hs);simpa using hh
theorem Yc {a:aa} {l:List aa} (Cg:l≠[]) (ha:RX T N most a.tf a.er) (hk:∀x∈l,RX T N most x.tf x.er):RX T N most (gd 7 [] 0 [] (aa.lu (a::l)) []) (.mk 7 [] 0 [] 0 (aa.cT (a::l)) []):=by
 have h:=CV hT hN ha.e (fun x hx=>(hk x hx).e) ha.h0 (z:=.mk 7 [] 0 [] 0 (aa.cT (a::l)) []) (fun p b l' hb iC=>by
  have:l'≠[]:=by rintro rfl;simp at iC;exact Cg iC
  rw[if_neg this,aa.er,aa.cT,aa.cT,aa.fa,aa.fa,iC,hb,aa.oA]) (q:=fW (fun a=>a.tf.qa 0+1) (a::l)) rfl
 have et:gd 7 [] 0 [] (aa.lu (a::l)) []=⟨cb [40]::(a.tf.at 0++((l.map fun a=>cb [44]::a.tf.at 0).flatten++[cb [41]])),6,false,fW (fun a=>a.tf.qa 0+1) (a::l)⟩:=by
  unfold gd;rw[if_neg (by decide),if_neg (by decide),if_neg (by decide),if_neg (by decide),if_neg (by decide),if_pos rfl,aa.qw,List.map_map,List.map_cons,rH,List.map_map,uH,List.append_assoc];rfl
 rw[et];exact X8 hT hN h (XY hT hN false h rfl rfl rfl) rfl
theorem Pa {n:List UInt8} {y:TF} {z:aa} (h:RX T N most y z):RX T N most (gd 6 n 0 [] [y] []) (.mk 6 n 0 [] 0 [z] []):=by
 obtain⟨g,r,e,hg⟩:=h.h6;refine rx5 (g:=zX n) (r:=y.at 6) (q:=y.qa 6) hT hN (fun K d hK hd=>?_) rfl;have hs:=cE (N:=N) hT most K (d+1);exact(EX (ok:=fun h=>!(false &&xi h)) (ts:=zX n::y.at 6) (x:=.mk 6 n 0 [] 0 [z] []) (D:=d+y.qa 6) (m:=sZ T N (fm T N most K (d+1))) (cf fun w hw=>bX yC rfl<|gg (cF _) rfl<|K7 Gb (by rw[e];exact dy hg) (gw (h.x6 K d hK hd) (fun x hx=>by rw[er1 hx,uL hw];rfl) (fun _ _=>rfl) (by omega))) (fun a=>uK hT hN N a hs):)
theorem Yd {n:List UInt8} (h:uC n=true):K5 (F9 n)=true/\(F9 n).2.1=n:=by
 simp only[uC,decide_eq_true_eq,List.mem_cons,List.not_mem_nil,or_false]at h;rcases h with rfl|rfl|rfl|rfl|rfl<;>exact⟨rfl,rfl⟩
theorem S8 {n:List UInt8} (hn:uC n=true) {y:TF} {z:aa} (h:RX T N most y z):RX T N most (gd 15 n 0 [] [y] []) (.mk 15 n 0 [] 0 [z] []):=by
 obtain⟨hp,bd⟩:=Yd hT hN hn;refine rx5 (g:=F9 n) (r:=y.at 6) (q:=y.qa 6) hT hN (fun K d hK hd=>?_) (by simp[xl,hp]);have hs:=cE (N:=N) hT most K (d+1);exact(EX (ok:=fun h=>!(false &&xi h)) (ts:=F9 n::y.at 6) (x:=.mk 15 n 0 [] 0 [z] []) (D:=d+y.qa 6) (m:=sZ T N (fm T N most K (d+1))) (cf fun w hw=>gg yC hp<|gw (h.x6 K d hK hd) (fun x hx=>by rw[er1 hx,uL hw,bd]) (fun _ _=>rfl) (by omega)) (fun a=>uK hT hN N a hs):)
theorem Ye {y1 y2:TF} {z1 z2:aa} (h1:RX T N most y1 z1) (h2:RX T N most y2 z2):RX T N most (gd 9 [] 0 [] [y1,y2] []) (.mk 9 [] 0 [] 0 [z1,z2] []):=by
 obtain⟨g2,r2,e2,kA⟩:=h2.h6;obtain⟨g1,r1,e1,jR⟩:=h1.h1 (if y1.b then 7 else 5) (by split <;>decide)
 have hx:X5 T N most false (y1.at (if y1.b then 7 else 5)) z1 (y1.qa (if y1.b then 7 else 5)):=by
  cases hb:y1.b with
  |true=>exact h1.x57
  |false=>have:=h1.x5;rw[hb]at this;exact this
 have et:gd 9 [] 0 [] [y1,y2] []=⟨g1::(r1++(g2::r2)),5,false,max (y1.qa (if y1.b then 7 else 5)) (y2.qa 6)⟩:=by
  show(⟨y1.at (if y1.b then 7 else 5)++y2.at 6,5,false,_⟩:TF)=_;rw[e1,e2];rfl
 rw[et];refine rx5 hT hN (fun K d hK hd=>?_) jR;have hs:=cE (N:=N) hT most K (d+1);rw[e1]at hx;have hy:=h2.x6 K d hK hd;rw[e2]at hy;exact(Gh (ok:=fun h=>!(false &&xi h)) hN Gb (hx K d hK hd) (fun n a=>uK hT hN n a hs) (fun y hy'=>gw hy (fun x hx=>er2 hy' hx) (fun _ _=>rfl) (by omega)) kA rfl).cast (by rw[List.cons_append]) (by omega)
theorem adf {n:List UInt8} (hn:CH n=true) {y1 y2:TF} {z1 z2:aa} (h1:RX T N most y1 z1) (h2:RX T N most y2 z2):RX T N most (gd 14 n 0 [] [y1,y2] []) (.mk 14 n 0 [] 0 [z1,z2] []):=by
 simp only[CH,decide_eq_true_eq,List.mem_cons,List.not_mem_nil,or_false]at hn
 have hd:∀a (r:List TK),1<=a->∃h r',y1.at a++r=h::r'/\xl h=true:=fun a r ha=>by
  obtain⟨g,r',e,hg⟩:=h1.h1 a ha;exact⟨g,r'++r,by rw[e];rfl,hg⟩
 have sum:∀n:List UInt8,K6 [[43],[45],[94]] (cb n)=true->DU (cb n)=true->gd 14 n 0 [] [y1,y2] []=⟨y1.at 3++(cb n::y2.at 4),3,false,max (y1.qa 3) (y2.qa 4)⟩->RX T N most (gd 14 n 0 [] [y1,y2] []) (.mk 14 n 0 [] 0 [z1,z2] []):=fun n ho og et=>by
  rw[et];refine rx3 hT hN (fun K d hK kz=>?_) (hd 3 _ (by decide));have hs:=cE (N:=N) hT most K (d+1);exact(Gh (ok:=DU) hN (Gc _) (h1.x3 K d hK kz) (fun n a=>yJ hT hN n a (nV hT hs)) (fun y hy=>cf fun w hw=>sI (gw (r4 hT hN h2.x4 K d hK kz) (fun x hx=>by rw[er2 hy hx,uL hw];rfl) (fun _ h=>h) (by omega))) ho og).cast rfl (by omega)
 have cmp:∀n:List UInt8,(tT [61] (cb n)||tT [60] (cb n))=true->Io (cb n)=true->gd 14 n 0 [] [y1,y2] []=⟨y1.at 3++(cb n::y2.at 3),2,false,max (y1.qa 3) (y2.qa 3)⟩->RX T N most (gd 14 n 0 [] [y1,y2] []) (.mk 14 n 0 [] 0 [z1,z2] []):=fun n ho eA et=>by
  rw[et];refine rx2 hT hN (fun K d hK kz=>?_) (hd 3 _ (by decide));have hs:=cE (N:=N) hT most K (d+1);exact gf (ok:=Gj) (r3 hT hN h1.x3 K d hK kz) (fun _=>iW hT ((aw T _).or (aw T _)) (nW hT hs)) (fun y hy=>cf fun w hw=>gg ((bU _).or (bU _)) ho (gw (r3 hT hN h2.x3 K d hK kz) (fun x hx=>by rw[er2 hy hx,uL hw];rfl) (fun _ h=>aaY h) (by omega))) (dy eA) rfl (by omega)
 rcases hn with rfl|rfl|rfl|rfl|rfl|rfl|rfl
 ·exact sum _ rfl rfl rfl
 ·exact sum _ rfl rfl rfl
 ·refine rx4 (f:=y1.at 4++(cb [42]::y2.at 5)) (q:=max (y1.qa 4) (y2.qa 5)) hT hN (fun K d hK kz=>?_) (hd 4 _ (by decide))
  have hs:=cE (N:=N) hT most K (d+1);exact(Gh (ok:=O7) hN (Gc _) (h1.x4 K d hK kz) (fun n a=>yJ hT hN n a (pD hT hs)) (fun y hy=>cf fun w hw=>sI (gw (r5 hT hN h2.x5 K d hK kz) (fun x hx=>by rw[er2 hy hx,uL hw];rfl) (fun _ h=>h) (by omega))) rfl rfl).cast rfl (by omega)
 ·exact sum _ rfl rfl rfl
 ·exact cmp _ rfl rfl rfl
 ·exact cmp _ rfl rfl rfl
 ·refine rx1 (f:=y1.at 2++(cb [58,61]::y2.at 2)) (q:=max (y1.qa 2) (y2.qa 2)) hT hN (fun K d hK kz=>?_) (hd 2 _ (by decide))
  have hs:=cE (N:=N) hT most K (d+1);exact gf (ok:=xk) (h1.x2 K d hK kz) (fun _=>iW hT (aw T _) (ma hT hs)) (fun y hy=>cf fun w hw=>gg (bU _) rfl (gw (h2.x2 K d hK kz) (fun x hx=>by rw[er2 hy hx,uL hw];rfl) (fun _ h=>aaX h) (by omega))) (dy rfl) rfl (by omega)
theorem nv {y:TF} {z:aa} (h:RX T N most y z) {K d:Nat} (hK:most+2<=K+(d+1)) (hd:d<=most):Rd T most d aa.er (fm T N most K (d+1)) (y.at 0) z (d+(y.qa 0+1)) xk:=
 ((h.e K (d+1) hK (by omega)).low (Nat.zero_le d)).cast rfl (by omega)
theorem Yf {n:List UInt8} {y1 y2:TF} {z1 z2:aa} (h1:RX T N most y1 z1) (h2:RX T N most y2 z2):RX T N most (gd 10 n 0 [] [y1,y2] []) (.mk 10 n 0 [] 0 [z1,z2] []):=by
  refine S4 (g:=fN [108,101,116]) hT hN (fun K d hK hd=> ?_) rfl
  cases K with
  |zero=>omega
  |succ K=>
   have hs:=cE (N:=N) hT most K (d+1);refine kd (Nat.le_add_right _ _) fun oe=>cf fun w hw=>gg (bU _) rfl ?_
   unfold uh;refine bX (bU _) rfl (oc (eQ rfl ?_));exact gf (nv hT hN h1 (by omega) oe) (fun _ =>ab.step (aG hT _) (ab.bind hs fun _ =>ab.ret _)) (fun a ha=>eQ (g:=fN [105,110]) rfl (gw (nv hT hN h2 (by omega) oe) (fun b hb=>by rw[aa.er,aa.cT,aa.cT,aa.cT,aa.oA,ha,hb]) (fun _ h=>h) (by omega))) (dy rfl) rfl (by simp only[List.getD_cons_zero,List.getD_cons_succ];omega)
theorem Yg {n t:List UInt8} {y1 y2:TF} {z1 z2:aa} (h1:RX T N most y1 z1) (h2:RX T N most y2 z2):RX T N most (gd 11 n 0 t [y1,y2] []) (.mk 11 n 0 t 0 [z1,z2] []):=by
  refine S4 (g:=fN [108,101,116]) hT hN (fun K d hK hd=> ?_) rfl
  cases K with
  |zero=>omega
  |succ K=>
   have hs:=cE (N:=N) hT most K (d+1);refine kd (Nat.le_add_right _ _) fun oe=>cf fun w hw=>gg (bU _) rfl ?_
   unfold uh;refine gg (bU _) rfl (oc (oc (eQ rfl ?_)));exact gf (nv hT hN h1 (by omega) oe) (fun _ =>ab.step (aG hT _) (ab.bind hs fun _ =>ab.ret _)) (fun a ha=>eQ (g:=fN [105,110]) rfl (gw (nv hT hN h2 (by omega) oe) (fun b hb=>by rw[aa.er,aa.cT,aa.cT,aa.cT,aa.oA,ha,hb]) (fun _ h=>h) (by omega))) (dy rfl) rfl (by simp only[List.getD_cons_zero,List.getD_cons_succ];omega)
theorem Yh {n:List UInt8} {y1:TF} {z1:aa} (h1:RX T N most y1 z1):RX T N most (gd 8 n 0 [] [y1] []) (.mk 8 n 0 [] 0 [z1] []):=by
  refine S4 (g:=fN [102,117,110]) (r:=xf n::cb [45,62]::y1.at 0) (q:=y1.qa 0+1) hT hN (fun K d hK hd=> ?_) rfl
  cases K with
  |zero=>omega
  |succ K=>
   refine kd (Nat.le_add_right _ _) fun oe=>cf fun w hw=>bX (bU _) rfl<|gg (bU _) rfl ?_
   unfold wu;exact oc (eQ rfl (gw (nv hT hN h1 (by omega) oe) (fun b hb=>er1 hb) (fun _ h=>h) (by omega)))
theorem adg {y1 y2 y3:TF} {z1 z2 z3:aa} (h1:RX T N most y1 z1) (h2:RX T N most y2 z2) (h3:RX T N most y3 z3):RX T N most (gd 12 [] 0 [] [y1,y2,y3] []) (.mk 12 [] 0 [] 0 [z1,z2,z3] []):=by
  refine S4 (g:=fN [105,102]) (r:=y1.at 0++(fN [116,104,101,110]::(y2.at 0++(fN [101,108,115,101]::y3.at 0)))) (q:=max (y1.qa 0+1) (max (y2.qa 0+1) (y3.qa 0+1))) hT hN (fun K d hK hd=> ?_) rfl
  cases K with
  |zero=>omega
  |succ K=>
   have hs:=cE (N:=N) hT most K (d+1);refine kd (Nat.le_add_right _ _) fun oe=>cf fun w hw=>bX (bU _) rfl<|bX (bU _) rfl<|gg (bU _) rfl ?_
   unfold DQ
   exact gf (nv hT hN h1 (by omega) oe) (fun _ =>ab.step (aG hT _) (ab.bind hs fun _ =>ab.step (aG hT _) (ab.bind hs fun _ =>ab.ret _)))
     (fun a ha=>eQ (g:=fN [116,104,101,110]) rfl (gf (nv hT hN h2 (by omega) oe) (fun _ =>ab.step (aG hT _) (ab.bind hs fun _ =>ab.ret _)) (fun b hb=>eQ (g:=fN [101,108,115,101]) rfl (gw (nv hT hN h3 (by omega) oe) (fun c hc=>by rw[aa.er,aa.cT,aa.cT,aa.cT,aa.cT,aa.oA,ha,hb,hc]) (fun _ h=>h) (by omega))) (dy rfl) rfl rfl)) (dy rfl) rfl (by omega)
theorem Yi {y1 y2:TF} {z1:ae} {z2:aa} (h1:tA T N most y1 z1) (h2:RX T N most y2 z2) {K d:Nat} (hK:most+2<=K+(d+1)) (hd:d<=most):Rd T most d ar.er (iA T (pA T N most K (d+1)) (fm T N most K (d+1))) (rI (y1,y2)) (.mk z1 z2) (d+uM (y1,y2)) xk:=by
 have hs:=cE (N:=N) hT most K (d+1);exact gf (((h1.e K (d+1) hK (by omega)).low (Nat.zero_le d)).cast rfl (D':=d+(y1.qa 0+1)) (by omega)) (fun _=>ab.step (aG hT _) (ab.bind hs fun _=>ab.ret _)) (fun a ha=>eQ (g:=cb [45,62]) rfl (gw (nv hT hN h2 hK hd) (fun b hb=>by rw[ar.er,ha,hb]) (fun _ h=>h) (by omega))) (dy rfl) rfl (by simp only[uM];omega)
theorem Pb {y1:TF} {z1:aa} (h1:RX T N most y1 z1) {a:ar} {l:List ar} (ha:∀K d,most+2≤K+(d+1)→d≤most→Rd T most d ar.er (iA T (pA T N most K (d+1)) (fm T N most K (d+1))) (rI a.tf) a.er (d+uM a.tf) xk)
    (hl:∀x∈l,∀K d,most+2≤K+(d+1)→d≤most→Rd T most d ar.er (iA T (pA T N most K (d+1)) (fm T N most K (d+1))) (rI x.tf) x.er (d+uM x.tf) xk):
    RX T N most (gd 13 [] 0 [] [y1] (aa.yx (a::l))) (.mk 13 [] 0 [] 0 [z1] (aa.oA (a::l))):=by
  have et:gd 13 [] 0 [] [y1] (aa.yx (a::l))=⟨fN [109,97,116,99,104]::(y1.at 0++(fN [119,105,116,104]::cb [124]::((rI a.tf++(l.map fun x=>cb [124]::rI x.tf).flatten)++[fN [101,110,100]]))),0,false,max (y1.qa 0+1) (fW (fun x=>uM x.tf) (a::l))⟩:=by
    have e1:((aa.yx (a::l)).map AU).flatten++[fN [101,110,100]]=cb [124]::((rI a.tf++(l.map fun x=>cb [124]::rI x.tf).flatten)++[fN [101,110,100]]):=by
      rw[aa.Np,List.map_map,List.map_cons,List.flatten_cons];simp only[AU,rI,List.cons_append,List.append_assoc,Function.comp_apply]
      rfl
    have e2:fW (fun a:TF×TF=>max (a.1.qa 0+1) (a.2.qa 0+1)) (aa.yx (a::l))=fW (fun x=>uM x.tf) (a::l):=by
      rw[aa.Np,uH];rfl
    have e0:gd 13 [] 0 [] [y1] (aa.yx (a::l))=⟨fN [109,97,116,99,104]::(y1.at 0++(fN [119,105,116,104]::(((aa.yx (a::l)).map AU).flatten++[fN [101,110,100]]))),0,false,max (y1.qa 0+1) (fW (fun a:TF×TF=>max (a.1.qa 0+1) (a.2.qa 0+1)) (aa.yx (a::l)))⟩:=rfl;rw[e0,e1,e2]
  rw[et];refine S4 hT hN (fun K d hK hd=> ?_) rfl
  cases K with
  |zero=>omega
  |succ K=>
   have hs:=cE (N:=N) hT most K (d+1);have hp:=mY (N:=N) hT most K (d+1);have dB:=pE hT hp hs;refine kd (Nat.le_add_right _ _) fun oe=>cf fun w hw=>bX (bU _) rfl<|bX (bU _) rfl<|bX (bU _) rfl<|gg (bU _) rfl ?_
   have hK2:most+2≤K+(d+1):=by omega
   refine fun s g r hc eg kz hr ic=> ?_
   have hlen:l.length≤N:=by
     have :=lG hr;have h3:=pL (f:=fun x=>cb [124]::rI (ar.tf x)) (l:=l) fun x hx=>⟨_,_,rfl⟩
     simp only[List.length_append,List.length_cons]at this;omega
   have bc:∀n,ab T (many (aH T [124]) (bM (iA T (pA T N most K (d+1)) (fm T N most K (d+1)))) n):=fun n=>ab.gj hT (aw T [124]) dB n
   have pr:DT T most d ar.er (bM (iA T (pA T N most K (d+1)) (fm T N most K (d+1)))) xk (fun x=>d+uM (ar.tf x)) (fun x=>cb [124]::rI (ar.tf x)) ar.er l:=qx fun x hx=>sI (hl x hx K d hK2 oe)
   have hm:=od (ok:=fun h=>decide (h=fN [101,110,100])) (bU [124]) bc (fun h hh=>by rw[decide_eq_true_eq]at hh;subst hh;rfl) (fun h hh=>by rw[decide_eq_true_eq]at hh;subst hh;rfl) l N pr hlen (fun a ha=>⟨_,_,rfl,rfl,rfl⟩);have e0:uG d (fun x:ar=>d+uM x.tf) l=d+fW (fun x=>uM x.tf) l:=sJ _ _ _;rw[e0]at hm
   have hA:Rd T most d (fun l:List ar=>l.map ar.er) (ow T N (iA T (pA T N most K (d+1)) (fm T N most K (d+1)))) (rI a.tf++(l.map fun x=>cb [124]::rI x.tf).flatten) ((a::l).map ar.er) (d+fW (fun x=>uM x.tf) (a::l)) (fun h=>decide (h=fN [101,110,100])):=
     gf (ha K d hK2 oe) (fun _ =>ab.bind (bc N) fun _ =>ab.ret _) (fun a' ha'=>gw hm (fun l' iC=>by rw[List.map_cons,List.map_cons,ha',iC]) (fun _ h=>h) (by omega)) (by
       cases l with
       |nil=>exact yD fun h hh=>by rw[decide_eq_true_eq]at hh;subst hh;rfl
       |cons b l=>exact dy rfl) rfl (by rw[fW];omega)
   refine gf (ok:=xk) (nv hT hN h1 hK2 oe) (fun _ =>ab.step (aG hT _) (ab.step (aG hT _) (ab.bind (ab.dU (uk hT dB) (ab.ret _)) fun _ =>ab.step (aG hT _) (ab.ret _)))) (fun x hx=>eQ (g:=fN [119,105,116,104]) rfl<|eQ (g:=cb [124]) rfl<|
     gf (K7 adb (fun _ _ =>rfl) hA) (fun _ =>ab.step (aG hT _) (ab.ret _)) (fun l' iC=>eQ (g:=fN [101,110,100]) rfl (dw ?_)) (dy rfl) rfl (Nat.max_eq_left (by omega))) (dy rfl) rfl ?_ s g r hc eg kz hr ic
   · rw[aa.er,aa.cT,aa.cT,aa.yA,aa.yA,hx,iC]
   · omega
theorem RX.adh:∀l:List ar,(∀x∈l,tA T N most x.tf.1 (match x with| .mk p e=>p.er)/\RX T N most x.tf.2 (match x with| .mk p e=>e.er))->∀x∈l,∀K d,most+2<=K+(d+1)->d<=most->Rd T most d ar.er (iA T (pA T N most K (d+1)) (fm T N most K (d+1))) (rI x.tf) x.er (d+uM x.tf) xk:=by
 intro l h x hx K d hK hd;obtain⟨h1,h2⟩:=h x hx
 cases x with
 |mk p e=>exact Yi hT hN h1 h2 hK hd
mutual
theorem aa.rt:∀t:aa,t.okB=true →RX T N most t.tf t.er
  | .mk k n u t p ks bf,h=>by
    rw[aa.okB,Bool.and_eq_true,Bool.and_eq_true]at h;have ih:=aa.Il ks h.2.1;have ihA:=RX.adh hT hN bf (aa.rtA bf h.2.2);have hk:=h.1;unfold gS at hk;rw[aa.tf,aa.er];by_cases Pc:k=13
    · subst Pc;simp at hk
      obtain⟨⟨hm,rfl,rfl,rfl⟩,-,ha⟩:=hk;obtain⟨a,rfl⟩:=uI (by simpa using hm);rcases bf with _|⟨b,l⟩
      · simp at ha
      · exact Pb hT hN (ih a (by simp)) (ihA b (by simp)) (fun x hx=>ihA x (by simp[hx]))
    have hA:bf=[]:=by
      simp only[Bool.and_eq_true]at hk;have :=hk.2.2;simp[Pc]at this;exact this
    subst hA
    replace hk:=(Bool.and_eq_true _ _ ▸hk).1
    by_cases h1:k=1
    · subst h1;simp at hk
      obtain⟨rfl,rfl,-,rfl⟩:=hk;exact X9 hT hN
    by_cases h2:k=2
    · subst h2;simp at hk
      obtain⟨rfl,rfl,rfl,-⟩:=hk;exact Ya hT hN
    by_cases h3:k=3
    · subst h3;simp at hk
      obtain⟨rfl,rfl,⟨h4,h5⟩,rfl⟩:=hk;exact S5 hT hN h4 h5
    by_cases h4:k=4
    · subst h4;simp at hk
      obtain⟨rfl,rfl,rfl,rfl⟩:=hk;exact S6 hT hN
    by_cases h5:k=5
    · subst h5;simp at hk
      obtain⟨rfl,-,rfl,rfl⟩:=hk;exact Yb hT hN
    by_cases h6:k=6
    · subst h6;simp at hk
      obtain⟨hm,-,rfl,rfl⟩:=hk;rcases ks with _|⟨a,_|⟨b,l⟩⟩
      · exact O9 hT hN
      · exact Pa hT hN (ih a (by simp))
      · simp at hm;omega
    by_cases h7:k=7
    · subst h7;simp at hk
      obtain⟨a,b,l,rfl⟩:=CS (l:=ks) (by have :=hk.1;omega);obtain⟨-,rfl,rfl,rfl⟩:=hk;exact Yc hT hN (by simp) (ih a (by simp)) (fun x hx=>ih x (by simp[hx]))
    by_cases h8:k=8
    · subst h8;simp at hk
      obtain⟨hm,-,rfl,rfl⟩:=hk;obtain⟨a,rfl⟩:=uI (by simpa using hm);exact Yh hT hN (ih a (by simp))
    by_cases h9:k=9
    · subst h9;simp at hk
      obtain⟨hm,rfl,rfl,rfl⟩:=hk;obtain⟨a,b,rfl⟩:=uJ hm;exact Ye hT hN (ih a (by simp)) (ih b (by simp))
    by_cases lN:k=10
    · subst lN;simp at hk
      obtain⟨hm,-,rfl,rfl⟩:=hk;obtain⟨a,b,rfl⟩:=uJ hm;exact Yf hT hN (ih a (by simp)) (ih b (by simp))
    by_cases vW:k=11
    · subst vW;simp at hk
      obtain⟨hm,-,rfl,-⟩:=hk;obtain⟨a,b,rfl⟩:=uJ hm;exact Yg hT hN (ih a (by simp)) (ih b (by simp))
    by_cases gz:k=12
    · subst gz;simp at hk
      obtain⟨hm,rfl,rfl,rfl⟩:=hk
      obtain⟨a,b,c,rfl⟩:∃a b c,ks=[a,b,c]:=by
        rcases ks with _|⟨a,_|⟨b,_|⟨c,_|⟨e,l⟩⟩⟩⟩
        · simp at hm
        · simp at hm
        · simp at hm
        · exact⟨a,b,c,rfl⟩
        · simp at hm;omega
      exact adg hT hN (ih a (by simp)) (ih b (by simp)) (ih c (by simp))
    by_cases xh:k=14
    · subst xh;simp at hk
      obtain⟨hm,hn,rfl,rfl⟩:=hk;obtain⟨a,b,rfl⟩:=uJ hm;exact adf hT hN hn (ih a (by simp)) (ih b (by simp))
    by_cases Pd:k=15
    · subst Pd;simp at hk
      obtain⟨hm,rfl,rfl⟩:=hk;rcases oS hm (by omega)with⟨rfl,h0⟩|⟨hp,h0⟩
      · have :=AW (l:=ks) (by simpa using h0)
        subst this;exact S7 hT hN
      · obtain⟨a,rfl⟩:=uI (by simpa using h0)
        exact S8 hT hN hp (ih a (by simp))
    simp[h1,h2,h3,h4,h5,h6,h7,h8,h9,lN,vW,gz,Pc,xh,Pd]at hk
theorem aa.Il:∀l:List aa,aa.eC l=true →∀x∈l,RX T N most x.tf x.er
  |[],_ =>fun x hx=>by cases hx
  |t::l,h=>fun x hx=>by
   rw[aa.eC,Bool.and_eq_true]at h;rcases List.mem_cons.1 hx with e|hx
   · exact e▸aa.rt t h.1
   · exact aa.Il l h.2 x hx
theorem aa.rtA:∀l:List ar,aa.p5 l=true →∀x∈l,tA T N most x.tf.1 (match x with| .mk p e=>p.er)∧RX T N most x.tf.2 (match x with| .mk p e=>e.er)
  |[],_ =>fun x hx=>by cases hx
  | .mk p e::l,h=>fun x hx=>by
    rw[aa.p5,ar.okB,Bool.and_eq_true,Bool.and_eq_true]at h;rcases List.mem_cons.1 hx with e2|hx
    · exact e2▸⟨ae.rt hT hN p h.1.1,aa.rt e h.1.2⟩
    · exact aa.rtA l h.2 x hx
end
end
def ai.q (c:ai):Nat:=if c.has then c.arg.tf.qa 0+1 else 0
def ao.q (d:ao):Nat:=fW ai.q d.ctors
def aI.q (g:aI):Nat:=max (fW ao.q g.types) (g.body.tf.qa 0+1)
def Ip:TK:=(8,[],0)
def S9 (h:TK):Bool:=decide (h=cb [124])||decide (h=cb [59])
theorem CW {h:TK} (k:S9 h=true):h=cb [124]\/h=cb [59]:=by simpa[S9]using k
theorem Ta {k:Int} {n:List UInt8} {u:Int} {t:List UInt8} {ks:List TF} {bf:List (TF×TF)} (h:(gd k n u t ks bf).l<1):∃g r,(gd k n u t ks bf).f=g::r/\tT [116,121,112,101] g=false:=by
 have ho:1<=(kQ n).1:=by unfold kQ;(repeat' split)<;>decide
 unfold gd at h⊢;by_cases h1:k=1
 ·rw[if_pos h1]at h;simp at h
 rw[if_neg h1]at h⊢;by_cases h2:k=2
 ·rw[if_pos h2]at h;simp at h
 rw[if_neg h2]at h⊢;by_cases h3:k=3
 ·rw[if_pos h3]at h;simp at h
 rw[if_neg h3]at h⊢;by_cases h4:k=4
 ·rw[if_pos h4]at h;simp at h
 rw[if_neg h4]at h⊢;by_cases h5:k=5
 ·rw[if_pos h5]at h;simp at h
 rw[if_neg h5]at h⊢;by_cases h7:k=7
 ·rw[if_pos h7]at h;simp at h
 rw[if_neg h7]at h⊢;by_cases xh:k=14
 ·rw[if_pos xh]at h;simp only[]at h;omega
 rw[if_neg xh]at h⊢;by_cases h6:k=6\/k=15
 ·rw[if_pos h6]at h;split at h<;>simp at h
 rw[if_neg h6]at h⊢;by_cases h9:k=9
 ·rw[if_pos h9]at h;simp at h
 rw[if_neg h9]
 repeat' split
 all_goals exact⟨_,_,rfl,rfl⟩
theorem Tc {T:List Tok} {N:Nat} (hT:bH T) (hN:T.length<=N) (x:aa) (h:x.okB=true):∃g r,x.tf.at 0=g::r/\tT [116,121,112,101] g=false:=by
 obtain⟨g,r,e,hg⟩:=(aa.rt (most:=0) hT hN x h).h1 1 (by decide);unfold TF.at at e⊢;by_cases h0:x.tf.l<0
 ·rw[if_pos h0];exact⟨_,_,rfl,rfl⟩
 rw[if_neg h0];by_cases h1:x.tf.l<1
 ·revert h1
  rcases x with⟨k,n,u,t,p,ks,bf⟩
  rw[aa.tf];exact Ta
 ·rw[if_neg h1]at e
  refine⟨g,r,e,?_⟩;obtain⟨k,t,n⟩:=g;rw[Bool.eq_false_iff];intro ht;simp only[tT,Bool.and_eq_true,Bool.or_eq_true,decide_eq_true_eq]at ht;obtain⟨hk,rfl⟩:=ht;rcases hk with rfl|rfl<;>simp[xl,xi,K5,tT,tK]at hg
section
variable {T:List Tok} {N most K:Nat} (hT:bH T) (hN:T.length<=N) (hK:most+2<=K+1)
include hT hN hK
theorem Iq {c:ai} (h:c.okB=true):Rd T most 0 ai.er (fL T (l9 T N most K 1)) c.fw c.er c.q S9:=by
 simp only[ai.okB,Bool.and_eq_true]at h;obtain⟨h1,h2,h3⟩:=h;unfold ai.fw ai.q;have hs:=gA (N:=N) hT most K 1;by_cases hh:c.has=true
 ·rw[if_pos hh]at h3⊢
  rw[if_pos hh];have ht:=(af.rt (most:=most) hT hN c.arg h3).e K 1 hK (by omega);refine cf fun w hw=>oc (gg (bU [111,102]) (g:=fN [111,102]) rfl ((gw (ok:=S9) (er:=ai.er) (x:=c.er) ht (fun x hx=>?_) (fun h hh=>?_) (Nat.zero_le _)).cast rfl (by omega)))
  ·simp only[ai.er,hx,hh]
  ·rcases CW hh with rfl|rfl<;>rfl
 ·rw[if_neg hh]at h3⊢
  rw[if_neg hh];refine cf fun w hw=>oc (Ge (bU _) (fun h hh=>?_) (dw ?_))
  ·rcases CW hh with rfl|rfl<;>rfl
  ·have:c.arg=vS:=by
    revert h3;rcases c.arg with⟨k,n,p,ks⟩
    intro h3;simp only[af.Ic,Bool.and_eq_true,decide_eq_true_eq]at h3;obtain⟨rfl,rfl,rfl,h4⟩:=h3;have:ks=[]:=List.length_eq_zero_iff.1 (by simpa using h4);rw[this];rfl
   simp only[ai.er,this,hh]
theorem Td {d:ao} (h:d.okB=true) {ok:TK->Bool}:Rd T most 0 ao.er (iK T N (l9 T N most K 1)) d.fw d.er d.q ok:=by
 simp only[ao.okB,Bool.and_eq_true]at h;obtain⟨h1,h2,h3,h4,h5⟩:=h;have hs:=gA (N:=N) hT most K 1;have Yj:=j8 hT hs
 obtain⟨a,l,Te⟩:∃a l,d.ctors=a::l:=by
  rcases hd:d.ctors with _|⟨a,l⟩
  ·rw[hd]at h3;simp at h3
  ·exact⟨a,l,rfl⟩
 rw[Te,List.all_cons,Bool.and_eq_true]at h5
 have et:d.fw=fN [116,121,112,101]::((d.vars.map fun v=>[DS v]).flatten++(xf d.name::cb [61]::(a.fw++((l.map fun x=>cb [124]::x.fw).flatten++[cb [59]])))):=by
  have e1:∀l:List (List UInt8),(l.map fun v=>[DS v]).flatten=l.map DS:=fun l=>by
   induction l with
   |nil=>rfl
   |cons a l ih=>rw[List.map_cons,List.flatten_cons,ih];rfl
  unfold ao.fw;rw[Te,List.map_cons,rH,List.map_map,e1,List.append_assoc];rfl
 rw[et];refine cf fun w hw=>eQ rfl fun s g r hc eg kz hr ic=>?_
 have X7:d.vars.length<=N:=by
  have:=lG hr;have h3:=pL (f:=fun v:List UInt8=>[DS v]) (l:=d.vars) fun x hx=>⟨_,_,rfl⟩
  simp only[List.length_append]at this;omega
 have hlc:l.length<=N:=by
  have:=lG hr;have h3:=pL (f:=fun x:ai=>cb [124]::x.fw) (l:=l) fun x hx=>⟨_,_,rfl⟩
  simp only[List.length_append,List.length_cons]at this;omega
 have hv:=od (er:=fun v:List UInt8=>v) (lo:=0) (most:=most) (ok:=fun h=>!tK 5 h) (ok0:=fun _=>true) (cF (T:=T) 5) (fun n=>ab.many (cr T (by decide)) (ab.word hT (by decide)) n) (fun h hh=>by simpa using hh) (fun _ _=>rfl) d.vars N
  (qx (D:=fun _=>0) (f:=fun v:List UInt8=>[DS v]) (e:=fun v=>v) fun v hv=>(oc (k:=5) (m:=fun n=>aO n) (dw rfl):)) X7 (fun v hv=>⟨_,_,rfl,rfl,rfl⟩)
 have e0:∀l:List (List UInt8),uG 0 (fun _=>0) l=0:=fun l=>by
  induction l with
  |nil=>rfl
  |cons a l ih=>rw[uG,ih];rfl
 rw[e0]at hv;have gU:DT T most 0 ai.er (bM (fL T (l9 T N most K 1))) S9 ai.q (fun x=>cb [124]::x.fw) ai.er l:=qx fun x hx=>sI (Iq hT hN hK (List.all_eq_true.1 h5.2 x hx))
 have hm:=od (ok:=fun h=>decide (h=cb [59])) (bU [124]) (fun n=>ab.gj hT (aw T [124]) Yj n) (fun h hh=>by rw[decide_eq_true_eq]at hh;subst hh;rfl) (fun h hh=>by rw[decide_eq_true_eq]at hh;subst hh;rfl) l N gU hlc (fun a ha=>⟨_,_,rfl,rfl,rfl⟩);have e1:uG 0 ai.q l=fW ai.q l:=by have:=sJ 0 ai.q l;simpa using this
 rw[e1]at hm
 have agt:∀vs n,ab T (cg (aS T [61])<|az (fL T (l9 T N most K 1)) fun c=>az (many (aH T [124]) (bM (fL T (l9 T N most K 1))) N) fun cs=>cg (aS T [59])<|aO (⟨n,vs,c::cs,w.p⟩:ao)):=fun vs n=>
  ab.step (aG hT _) (ab.bind Yj fun _=>ab.bind (ab.gj hT (aw T _) Yj N) fun _=>ab.step (aG hT _) (ab.ret _))
 refine gf (ok:=ok) (er:=ao.er) (x:=d.er) (D:=d.q) hv (fun vs=>ab.bind (ab.word hT (by decide)) fun n=>agt vs n) (fun vs G8=>oc (eQ (g:=cb [61]) rfl ?_)) (dy rfl) rfl (D2:=d.q) (Nat.max_eq_right (Nat.zero_le _)) s g r hc eg kz hr ic;refine gf (Iq hT hN hK h5.1) (fun _=>ab.bind (ab.gj hT (aw T _) Yj N) fun _=>ab.step (aG hT _) (ab.ret _)) (fun c hc=>gf hm (fun _=>ab.step (aG hT _) (ab.ret _)) (fun cs gU=>eQ (g:=cb [59]) rfl (dw ?_)) (dy rfl) rfl (Nat.max_eq_left (Nat.zero_le _))) ?_ rfl ?_
 ·simp only[ao.er,Te,List.map_cons,hc,gU]
  simp at G8;rw[G8]
 ·cases l with
  |nil=>exact dy rfl
  |cons b l=>exact dy rfl
 ·rw[ao.q,Te,fW]
theorem Ir {g:aI} (h:g.okB=true):Rd T most 0 aI.er (jh T N (l9 T N most K 1) (fm T N most K 1)) g.fw g.er g.q (fun h=>decide (h=Ip)):=by
 simp only[aI.okB,Bool.and_eq_true]at h;obtain⟨h1,h2⟩:=h;have hs:=cE (N:=N) hT most K 1;have hsd:=qi (N:=N) hT (gA (N:=N) hT most K 1);have hb:=aa.rt (most:=most) hT hN g.body h1;refine fun s h r hc eg kz hr ic=>?_
 have aF:g.types.length<=N:=by
  have:=lG hr;have h3:=pL (f:=fun x:ao=>x.fw) (l:=g.types) fun x hx=>⟨_,_,rfl⟩
  rw[aI.fw]at this;simp only[List.length_append]at this;have e:(g.types.map ao.fw).flatten.length=(g.types.map fun x=>x.fw).flatten.length:=rfl;omega
 have KA:DT T most 0 ao.er (iK T N (l9 T N most K 1)) (fun _=>true) ao.q ao.fw ao.er g.types:=qx fun x hx=>Td hT hN hK (List.all_eq_true.1 h2 x hx)
 have hm:=od (ok:=fun h=>!tT [116,121,112,101] h) (bU [116,121,112,101]) (fun n=>ab.many (aw T _) hsd n) (fun h hh=>by simpa using hh) (fun _ _=>rfl) g.types N KA aF (fun a ha=>⟨_,_,rfl,rfl,rfl⟩);have e1:uG 0 ao.q g.types=fW ao.q g.types:=by have:=sJ 0 ao.q g.types;simpa using this
 rw[e1]at hm
 have agu:∀(ds:List ao) (e:aa),ds.map ao.er=g.types.map ao.er->e.er=g.body.er->Rd T most 0 aI.er (cg (iU T)<|aO (⟨ds,e⟩:aI)) [] g.er 0 (fun h=>decide (h=Ip)):=fun ds e KA he s h r hc eg hd hr hk=>by
  have:iU T s=s:=by
   unfold iU;rw[if_pos];rw[cF 8 s h r hc hr];rw[decide_eq_true_eq]at hk;subst hk;rfl
  unfold cg;rw[this];exact dw (er:=aI.er) (ok:=fun h=>decide (h=Ip)) (by simp only[aI.er,KA,he]) s h r hc eg hd hr hk
 obtain⟨h0,r0,e0,hh0⟩:∃h r,g.body.tf.at 0=h::r/\tT [116,121,112,101] h=false:=Tc hT hN g.body h1;refine gf (er:=aI.er) (x:=g.er) (ok:=fun h=>decide (h=Ip)) hm (fun _=>ab.bind hs fun _=>ab.step (ry T) (ab.ret _)) (fun ds KA=>gf (hb.e K 1 hK (by omega)) (fun _=>ab.step (ry T) (ab.ret _)) (fun e he=>agu ds e KA he) (yD fun h hh=>by rw[decide_eq_true_eq]at hh;subst hh;rfl) (List.append_nil _) (D:=g.body.tf.qa 0+1) (by omega)) (by rw[e0];exact dy (by rw[hh0];rfl)) rfl rfl s h r hc eg kz hr ic
end
theorem Is {α β:Type} {T:List Tok} {most:Nat} {er:α->β} {m:PM α} {ts:List TK} {x:β} {D:Nat} (h:Rd T most 0 er m ts x D (fun h=>decide (h=Ip))) (hT:T.map Tok.b=ts++[Ip]):
  (D<=most/\∃y,er y=x/\told m=.inl y/\(m ⟨0,0,0,0,0⟩).2.d=D/\(m ⟨0,0,0,0,0⟩).2.c=0)\/(most<D/\∃q,told m=.inr (12,q)):=by
 rcases h ⟨0,0,0,0,0⟩ Ip [] rfl (Nat.le_refl _) (Nat.zero_le _) hT (by decide)with⟨h1,y,h2,h3⟩|⟨h1,h2,h3⟩
 ·refine .inl ⟨h1,y,h2,?_,?_,?_⟩
  ·unfold told;rw[h3];rfl
  ·rw[h3];exact Nat.max_eq_right (Nat.zero_le _)
  ·rw[h3];rfl
 ·refine .inr ⟨h1,(m ⟨0,0,0,0,0⟩).2.ps,?_⟩
  unfold told;simp only[h2]
  rfl
theorem It {s:List UInt8} {ts:List TK} {g} (h:vV g s ts) (hg:g []=true):(∃T,kX s=.inl T/\T.map Tok.b=ts++[Ip])\/∃p,kX s=.inr (5,p):=by
 unfold kX;split
 ·exact .inr ⟨0,rfl⟩
 ·rcases z6 h hg 1200 with⟨-,T,h1,h2⟩|⟨-,p,h2⟩
  ·exact .inl ⟨T,h2,h1⟩
  ·exact .inr ⟨p,h2⟩
theorem Tg {g:aI} (h:g.okB=true) (hf:g.body.fit):(∃p,kX g.form=.inr (5,p))\/∃T,kX g.form=.inl T/\
  ((g.q<=40/\∃y,y.er=g.er/\told (jh T T.length (l9 T T.length 40 41 1) (fm T T.length 40 41 1))=.inl y)\/(40<g.q/\∃q,told (jh T T.length (l9 T T.length 40 41 1) (fm T T.length 40 41 1))=.inr (12,q))):=by
 rcases It (aI.lx h hf) rfl with⟨T,h1,h2⟩|h1
 ·refine .inr ⟨T,h1,?_⟩
  rcases Is (Ir (most:=40) (K:=41) (nS h1).1 (Nat.le_refl _) (by decide) h) h2 with⟨k0,y,k1,k2,-⟩|⟨k0,k⟩
  ·exact .inl ⟨k0,y,k1,k2⟩
  ·exact .inr ⟨k0,k⟩
 ·exact .inl h1
structure gO where
 i:Nat
 h:Int
abbrev CM (α:Type):=gO->α×gO
def CX (h:Int):Int:=wr .i64 (wr .i64 (h*6364136223846793005)+1442695040888963407)
def Iu (h:Int):Int:=jD .and .i64 (jD .xor .i64 (h.fdiv (2^33)) (h.fdiv (2^47))) 255
def dD {α:Type} (m:CM α):Nat->CM (List α)
 |0,c=>([],c)
 |n+1,c=>((m c).1::(dD m n (m c).2).1,(dD m n (m c).2).2)
section
variable (b:List Int)
def cO:CM Int:=fun c=>if c.i<b.length then(jD .and .i64 (wr .i64 (Iu (CX c.h)+wr .i64 (b.getD c.i 0))) 255,⟨c.i+1,CX c.h⟩)else(Iu (CX c.h),⟨c.i,CX c.h⟩)
def aC (n:Int):CM Int:=fun c=>if n<=0 then(0,c)else if n<=256 then((cO b c).1.tmod n,(cO b c).2)else
 (((cO b c).1*65536+(cO b (cO b c).2).1*256+(cO b (cO b (cO b c).2).2).1).tmod n,(cO b (cO b (cO b c).2).2).2)
def fC (n:Int):CM Bool:=fun c=>(decide ((aC b n c).1=0),(aC b n c).2)
def wy (l:List Int):CM Int:=fun c=>(l.getD (aC b l.length c).1.toNat 0,(aC b l.length c).2)
def jP (l:List (List UInt8)):CM (List UInt8):=fun c=>(l.getD (aC b l.length c).1.toNat [],(aC b l.length c).2)
def kS:CM (List UInt8):=jP b [[120],[121],[102],[103],[110],[120,115]]
def kD:CM (List UInt8):=jP b [[78,105,108],[67,111,110,115],[65],[66],[83,111,109,101]]
def Nt (rec:CM ae) (k q:Int):CM ae:=fun c=>
 if k=0 then(.mk 1 [] 0 q [],c)
 else if k=1 then(.mk 2 (kS b c).1 0 q [],(kS b c).2)
 else if k=2 then(.mk 3 [] (aC b 4 c).1 q [],(aC b 4 c).2)
 else if k=3 then(.mk 4 [] (aC b 2 c).1 q [],(aC b 2 c).2)
 else if k=4 then(.mk 5 [] 0 q [],c)
 else if k=5 then(.mk 7 (kD b c).1 0 q [],(kD b c).2)
 else if k=6 then(.mk 7 (kD b c).1 0 q [(rec (kD b c).2).1],(rec (kD b c).2).2)
 else(.mk 6 [] 0 q (dD rec (2+(aC b 2 c).1).toNat (aC b 2 c).2).1,(dD rec (2+(aC b 2 c).1).toNat (aC b 2 c).2).2)
def Nu (leaf:Bool) (rec:CM ae):CM ae:=fun c=>
 let s:=if leaf then aC b 5 (aC b 9 c).2 else aC b 9 c
 Nt b rec s.1 (aC b 9 s.2).1 (aC b 9 s.2).2
def uN:Nat->CM ae
 |0=>Nu b true fun c=>(Co,c)
 |d+1=>Nu b false (uN d)
def jl (k q:Int):CM aa:=fun c=>
 if k=1 then(leaf 1 [] (wy b [0,3,17,9223372036854775807] c).1 [] q,(wy b [0,3,17,9223372036854775807] c).2)
 else if k=2 then(leaf 2 [] 0 (jP b [[],[104,105],[97,34,98],[10]] c).1 q,(jP b [[],[104,105],[97,34,98],[10]] c).2)
 else if k=3 then(leaf 3 [] (aC b 2 c).1 [] q,(aC b 2 c).2)
 else if k=5 then(leaf 5 (kS b c).1 0 [] q,(kS b c).2)
 else if k=6 then(leaf 6 (kD b c).1 0 [] q,(kD b c).2)
 else(leaf k [] 0 [] q,c)
def sL:CM aa:=fun c=>
 let e:=jl b (1+(aC b 6 c).1) (aC b 9 (aC b 6 c).2).1 (aC b 9 (aC b 6 c).2).2
 if(fC b 8 e.2).1 then(leaf 15 [114,101,97,100] 0 [] 0,(fC b 8 e.2).2)else(e.1,(fC b 8 e.2).2)
def na (rec:CM aa):CM ar:=fun c=>(.mk (uN b 2 c).1 (rec (uN b 2 c).2).1,(rec (uN b 2 c).2).2)
structure Hd where
 n:List UInt8
 t:List UInt8
 bf:List ar
 m:Int
def gJ (rec:CM aa) (k:Int):CM Hd:=fun c=>
 if k=6 then(⟨(kD b c).1,[],[],(aC b 2 (kD b c).2).1⟩,(aC b 2 (kD b c).2).2)
 else if k=7 then(⟨[],[],[],2+(aC b 2 c).1⟩,(aC b 2 c).2)
 else if k=8 then(⟨(kS b c).1,[],[],1⟩,(kS b c).2)
 else if k=10 then(⟨(kS b c).1,[],[],2⟩,(kS b c).2)
 else if k=11 then(⟨(kS b c).1,(kS b (kS b c).2).1,[],2⟩,(kS b (kS b c).2).2)
 else if k=12 then(⟨[],[],[],3⟩,c)
 else if k=13 then(⟨[],[],(dD (na b rec) (1+(aC b 3 c).1).toNat (aC b 3 c).2).1,1⟩,(dD (na b rec) (1+(aC b 3 c).1).toNat (aC b 3 c).2).2)
 else if k=14 then(⟨(jP b [[43],[45],[42],[94],[61],[60],[58,61]] c).1,[],[],2⟩,(jP b [[43],[45],[42],[94],[61],[60],[58,61]] c).2)
 else if k=15 then(⟨(jP b [[112,114,105,110,116],[101,120,105,116],[115,105,122,101],[114,101,102],[33]] c).1,[],[],1⟩,(jP b [[112,114,105,110,116],[101,120,105,116],[115,105,122,101],[114,101,102],[33]] c).2)
 else(⟨[],[],[],2⟩,c)
def Aa (rec:CM aa) (k q:Int):CM aa:=fun c=>
 let h:=gJ b rec k c
 (.mk k h.1.n 0 h.1.t q (dD rec h.1.m.toNat h.2).1 h.1.bf,(dD rec h.1.m.toNat h.2).2)
def Iv (rec:CM aa):CM aa:=fun c=>
 if(fC b 6 c).1 then sL b (fC b 6 c).2
 else Aa b rec (6+(aC b 10 (fC b 6 c).2).1) (aC b 9 (aC b 10 (fC b 6 c).2).2).1 (aC b 9 (aC b 10 (fC b 6 c).2).2).2
def uO:Nat->CM aa
 |0=>sL b
 |d+1=>Iv b (uO d)
end
def lH {α:Type} (P:α->Prop) (m:CM α):Prop:=∀c,P (m c).1
theorem Nv (y:Int):0<=jD .and .i64 y 255/\jD .and .i64 y 255<=255:=by
 show 0<=wr .i64 ((BitVec.ofInt 64 y&&&BitVec.ofInt 64 255).toNat:Int)/\wr .i64 ((BitVec.ofInt 64 y&&&BitVec.ofInt 64 255).toNat:Int)<=255
 have h:(BitVec.ofInt 64 y&&&BitVec.ofInt 64 255).toNat<=255:=by
  rw[BitVec.toNat_and];have e2:(BitVec.ofInt 64 (255:Int)).toNat=255:=by rfl
  rw[e2];exact Nat.and_le_right
 generalize (BitVec.ofInt 64 y&&&BitVec.ofInt 64 255).toNat=n at h⊢
 have e:wr .i64 (n:Int)=(n:Int):=by
  simp[wr,IntKind.wrap,IntKind.bits,IntKind.signed];omega
 omega
section
variable {b:List Int}
theorem o8 (c:gO):0<=(cO b c).1/\(cO b c).1<=255:=by
 unfold cO;split
 ·exact Nv _
 ·exact Nv _
theorem bO {n:Int} (hn:0<n) (c:gO):0<=(aC b n c).1/\(aC b n c).1<n:=by
 unfold aC;rw[if_neg (by omega)];have h1:=o8 (b:=b) c;have h2:=o8 (b:=b) (cO b c).2;have h3:=o8 (b:=b) (cO b (cO b c).2).2;split
 ·rw[Int.tmod_eq_emod_of_nonneg h1.1]
  exact⟨Int.emod_nonneg _ (by omega),Int.emod_lt_of_pos _ hn⟩
 ·simp only[]
  rw[Int.tmod_eq_emod_of_nonneg (by omega)];exact⟨Int.emod_nonneg _ (by omega),Int.emod_lt_of_pos _ hn⟩
theorem E0 {α:Type} {l:List α} {i:Nat} {d:α} (h:i<l.length):l.getD i d∈l:=by
 rw[List.getD_eq_getElem?_getD,List.getElem?_eq_getElem h];exact List.getElem_mem h
theorem Pe {l:List (List UInt8)} (hl:l≠[]) (c:gO):(jP b l c).1∈l:=by
 have h0:0<l.length:=List.length_pos_iff.2 hl;have:=bO (b:=b) (n:=l.length) (by omega) c;exact E0 (by omega)
theorem nb {l:List (List UInt8)} {P:List UInt8->Prop} (hl:l≠[]) (h:∀x∈l,P x) (c:gO):P (jP b l c).1:=h _ (Pe hl c)
theorem Pf {l:List Int} (hl:l≠[]) (c:gO):(wy b l c).1∈l:=by
 have h0:0<l.length:=List.length_pos_iff.2 hl;have:=bO (b:=b) (n:=l.length) (by omega) c;exact E0 (by omega)
theorem lI {α:Type} {m:CM α}:∀(n:Nat) (c:gO),(dD m n c).1.length=n
 |0,c=>rfl
 |n+1,c=>by rw[dD];simp[lI n]
theorem nd {α:Type} {m:CM α} {P:α→Prop} (h:lH P m):∀(n:Nat) (c:gO),∀x∈(dD m n c).1,P x
  |0,c=>fun x hx=>by cases hx
  |n+1,c=>fun x hx=>by
   rw[dD]at hx;rcases List.mem_cons.1 hx with rfl|hx
   · exact h c
   · exact nd h n _ x hx
theorem Bq (c:gO):mE (kS b c).1=true/\(kS b c).1.length<=5:=nb (P:=fun x=>mE x=true/\x.length<=5) (by simp) (by decide) c
theorem Br (c:gO):K0 (kD b c).1=true/\(kD b c).1.length<=5:=nb (P:=fun x=>K0 x=true/\x.length<=5) (by simp) (by decide) c
def GP (B:Nat) (t:ae):Prop:=t.okB=true/\t.fit/\t.sz<=B
theorem GPs {B:Nat}:∀{l:List ae},(∀x∈l,GP B x)→ae.eC l=true ∧ae.gI l∧ae.eO l≤l.length*(B+1)
  |[],_ =>⟨rfl,trivial,Nat.zero_le _⟩
  |t::l,h=>by
   obtain⟨h1,h2,h3⟩:=h t (by simp);obtain⟨k1,k2,k3⟩:=GPs (l:=l) fun x hx=>h x (by simp[hx])
   refine⟨by rw[ae.eC,h1,k1];rfl,by rw[ae.gI];exact⟨h2,k2⟩, ?_⟩;rw[ae.eO,List.length_cons,Nat.add_mul];omega
theorem rK {k:Int} {n:List UInt8} {u q:Int} {B:Nat} (h:mF k n u q 0=true) (hu:u<=9223372036854775807) (hn:n.length<=B):GP B (.mk k n u q []):=
 ⟨by rw[ae.okB,ae.eC,Bool.and_true];exact h,by rw[ae.fit];exact⟨hu,trivial⟩,by rw[ae.sz,ae.eO];omega⟩
theorem Iw {rec:CM ae} {B:Nat} {k q:Int} (h:(0<=k/\k<5)\/lH (GP B) rec) (hk:0<=k/\k<9) (hq:0<=q):lH (GP (3*B+10)) (Nt b rec k q):=fun c=>by
 have hn:=Bq (b:=b) c;have hu:=Br (b:=b) c;have h4:=bO (b:=b) (n:=4) (by decide) c;have h2:=bO (b:=b) (n:=2) (by decide) c;unfold Nt;by_cases k0:k=0
 ·rw[if_pos k0];exact rK (by simp[mF,hq]) (by decide) (by simp)
 rw[if_neg k0];by_cases k1:k=1
 ·rw[if_pos k1];exact rK (by simp[mF,hq,hn.1]) (by decide) (by omega)
 rw[if_neg k1];by_cases k2:k=2
 ·rw[if_pos k2];exact rK (by simp[mF,hq,h4.1]) (by omega) (by simp)
 rw[if_neg k2];by_cases k3:k=3
 ·rw[if_pos k3];exact rK (by simp[mF,hq,h2.1];omega) (by omega) (by simp)
 rw[if_neg k3];by_cases k4:k=4
 ·rw[if_pos k4];exact rK (by simp[mF,hq]) (by decide) (by simp)
 rw[if_neg k4];by_cases k5:k=5
 ·rw[if_pos k5];exact rK (by simp[mF,hq,hu.1]) (by decide) (by omega)
 rw[if_neg k5];have hr:lH (GP B) rec:=h.resolve_left (by omega);by_cases k6:k=6
 ·rw[if_pos k6]
  obtain⟨r1,r2,r3⟩:=hr (kD b c).2;refine⟨?_,?_,?_⟩
  ·rw[ae.okB,ae.eC,ae.eC,r1];simp[mF,hq,hu.1]
  ·rw[ae.fit,ae.gI,ae.gI];exact⟨by decide,r2,trivial⟩
  ·rw[ae.sz,ae.eO,ae.eO];omega
 rw[if_neg k6];have hl:=lI (m:=rec) (2+(aC b 2 c).1).toNat (aC b 2 c).2;obtain⟨r1,r2,r3⟩:=GPs (nd hr (2+(aC b 2 c).1).toNat (aC b 2 c).2);refine⟨?_,?_,?_⟩
 ·rw[ae.okB,r1,hl];simp[mF,hq];omega
 ·rw[ae.fit];exact⟨by decide,r2⟩
 ·rw[hl]at r3
  have:(2+(aC b 2 c).1).toNat*(B+1)<=3*(B+1):=Nat.mul_le_mul_right _ (by omega);rw[ae.sz,List.length_nil];omega
def yK:Nat->Nat
 |0=>10
 |d+1=>3*yK d+10
theorem E1:∀d:Nat,lH (GP (yK d)) (uN b d)
  |0=>fun c=>by
   have h5:=bO (b:=b) (n:=5) (by decide) (aC b 9 c).2;have h9:=bO (b:=b) (n:=9) (by decide) (aC b 5 (aC b 9 c).2).2
   exact Iw (B:=0) (.inl h5) ⟨h5.1,by omega⟩ h9.1 _
  |d+1=>fun c=>by
   have h5:=bO (b:=b) (n:=9) (by decide) c;have h9:=bO (b:=b) (n:=9) (by decide) (aC b 9 c).2;exact Iw (.inr (E1 d)) h5 h9.1 _
def GE (B:Nat) (t:aa):Prop:=t.okB=true/\t.fit/\t.sz<=B
theorem GEs {B:Nat}:∀{l:List aa},(∀x∈l,GE B x)→aa.eC l=true ∧aa.gI l∧aa.eO l≤l.length*(B+1)
  |[],_ =>⟨rfl,trivial,Nat.zero_le _⟩
  |t::l,h=>by
   obtain⟨h1,h2,h3⟩:=h t (by simp);obtain⟨k1,k2,k3⟩:=GEs (l:=l) fun x hx=>h x (by simp[hx])
   refine⟨by rw[aa.eC,h1,k1];rfl,by rw[aa.gI];exact⟨h2,k2⟩, ?_⟩;rw[aa.eO,List.length_cons,Nat.add_mul];omega
def GA (B:Nat) (t:ar):Prop:=t.okB=true/\t.fit/\t.sz<=B
theorem GAs {B:Nat}:∀{l:List ar},(∀x∈l,GA B x)→aa.p5 l=true ∧aa.pG l∧aa.nP l≤l.length*(B+1)
  |[],_ =>⟨rfl,trivial,Nat.zero_le _⟩
  |t::l,h=>by
   obtain⟨h1,h2,h3⟩:=h t (by simp);obtain⟨k1,k2,k3⟩:=GAs (l:=l) fun x hx=>h x (by simp[hx])
   refine⟨by rw[aa.p5,h1,k1];rfl,by rw[aa.pG];exact⟨h2,k2⟩, ?_⟩;rw[aa.nP,List.length_cons,Nat.add_mul];omega
theorem pM {k:Int} {n:List UInt8} {u:Int} {t:List UInt8} {q:Int} {B:Nat} (h:gS k n u t q 0 0=true) (hu:u<=9223372036854775807) (hn:n.length+t.length<=B):GE B (leaf k n u t q):=
 ⟨by rw[leaf,aa.okB,aa.eC,aa.p5,Bool.and_true,Bool.and_true];exact h,by rw[leaf,aa.fit];exact⟨hu,trivial,trivial⟩,by rw[leaf,aa.sz,aa.eO,aa.nP];omega⟩
theorem Ph {k q:Int} (hk:1<=k/\k<=6) (hq:0<=q):lH (GE 10) (jl b k q):=fun c=>by
 have hn:=Bq (b:=b) c;have hu:=Br (b:=b) c;have h2:=bO (b:=b) (n:=2) (by decide) c;unfold jl;by_cases k1:k=1
 ·rw[if_pos k1]
  have hm:=Pf (b:=b) (l:=[0,3,17,9223372036854775807]) (by simp) c
  have:0<=(wy b [0,3,17,9223372036854775807] c).1/\(wy b [0,3,17,9223372036854775807] c).1<=9223372036854775807:=by
   simp only[List.mem_cons,List.not_mem_nil,or_false]at hm;omega
  exact pM (by simp[gS,hq,this.1]) this.2 (by simp)
 rw[if_neg k1];by_cases k2:k=2
 ·rw[if_pos k2]
  have hs:=nb (b:=b) (l:=[[],[104,105],[97,34,98],[10]]) (P:=fun x=>qo x=true/\x.length<=5) (by simp) (by decide) c;exact pM (by simp[gS,hq,hs.1]) (by decide) (by simp;omega)
 rw[if_neg k2];by_cases k3:k=3
 ·rw[if_pos k3];exact pM (by simp[gS,hq,h2.1];omega) (by omega) (by simp)
 rw[if_neg k3];by_cases k5:k=5
 ·rw[if_pos k5];exact pM (by simp[gS,hq,hn.1]) (by decide) (by simp;omega)
 rw[if_neg k5];by_cases k6:k=6
 ·rw[if_pos k6];exact pM (by simp[gS,hq,hu.1]) (by decide) (by simp;omega)
 rw[if_neg k6];have:k=4:=by omega
 subst this;exact pM (by simp[gS,hq]) (by decide) (by simp)
theorem E2:lH (GE 10) (sL b):=fun c=>by
 have h6:=bO (b:=b) (n:=6) (by decide) c;have h9:=bO (b:=b) (n:=9) (by decide) (aC b 6 c).2;unfold sL;simp only[];split
 ·exact pM (by decide) (by decide) (by decide)
 ·exact Ph ⟨by omega,by omega⟩ h9.1 _
theorem Pj {rec:CM aa} {B:Nat} (hr:lH (GE B) rec):lH (GA (yK 2+B)) (na b rec):=fun c=>by
 obtain⟨p1,p2,p3⟩:=E1 (b:=b) 2 c;obtain⟨r1,r2,r3⟩:=hr (uN b 2 c).2;exact⟨by rw[na,ar.okB,p1,r1];rfl,by rw[na,ar.fit];exact⟨p2,r2⟩,by rw[na,ar.sz];omega⟩
theorem Pk {rec:CM aa} {B:Nat} {k q:Int} (hr:lH (GE B) rec) (hk:6<=k/\k<=15) (hq:0<=q):lH (GE (4*B+3*yK 2+20)) (Aa b rec k q):=fun c=>by
 have kids:=fun(m:Nat) (c:gO)=>GEs (nd hr m c)
 have Ix:=fun(m:Nat) (c:gO)=>lI (m:=rec) m c
 have fin:∀(h:Hd) (c2:gO),gJ b rec k c=(h,c2)->(∀m:Nat,(m:Int)=h.m->gS k h.n 0 h.t q m h.bf.length=true)->0<=h.m->h.m<=3->(h.m=1\/h.bf=[])->aa.p5 h.bf=true->aa.pG h.bf->h.n.length+h.t.length<=12->aa.nP h.bf<=3*(yK 2+B+1)->GE (4*B+3*yK 2+20) (Aa b rec k q c).1:=by
  intro h c2 e h1 h2 h3 h4 h5 h6 h7 h8;unfold Aa;simp only[e];obtain⟨r1,r2,r3⟩:=kids h.m.toNat c2;refine⟨?_,?_,?_⟩
  ·rw[aa.okB,r1,h5,Ix,h1 _ (by omega)];rfl
  ·rw[aa.fit];exact⟨by decide,r2,h6⟩
  ·rw[Ix]at r3
   rw[aa.sz];rcases h4 with h4|h4
   ·have e1:h.m.toNat*(B+1)=B+1:=by rw[h4];show 1*(B+1)=_;omega
    omega
   ·rw[h4,aa.nP]
    have:h.m.toNat*(B+1)<=3*(B+1):=Nat.mul_le_mul_right _ (by omega);omega
 have hn:=Bq (b:=b) c;have bd:=Bq (b:=b) (kS b c).2;have hu:=Br (b:=b) c;have h2:=bO (b:=b) (n:=2) (by decide) c;have h2u:=bO (b:=b) (n:=2) (by decide) (kD b c).2;by_cases k6:k=6
 ·subst k6
  refine fin ⟨(kD b c).1,[],[],(aC b 2 (kD b c).2).1⟩ _ (by unfold gJ;rw[if_pos rfl]) (fun m hm=>?_) h2u.1 (by simp only[];omega) (.inr rfl) rfl trivial (by simp;omega) (by simp[aa.nP]);simp only[]at hm;simp[gS,hq,hu.1];omega
 by_cases k7:k=7
 ·subst k7
  refine fin ⟨[],[],[],2+(aC b 2 c).1⟩ _ (by unfold gJ;rw[if_neg (by decide),if_pos rfl]) (fun m hm=>?_) (by simp only[];omega) (by simp only[];omega) (.inr rfl) rfl trivial (by simp) (by simp[aa.nP]);simp only[]at hm;simp[gS,hq];omega
 by_cases k8:k=8
 ·subst k8
  refine fin ⟨(kS b c).1,[],[],1⟩ _ (by unfold gJ;rw[if_neg (by decide),if_neg (by decide),if_pos rfl]) (fun m hm=>?_) (by simp) (by simp) (.inr rfl) rfl trivial (by simp;omega) (by simp[aa.nP]);simp only[]at hm;simp[gS,hq,hn.1];omega
 by_cases CY:k=10
 ·subst CY
  refine fin ⟨(kS b c).1,[],[],2⟩ _ (by unfold gJ;rw[if_neg (by decide),if_neg (by decide),if_neg (by decide),if_pos rfl]) (fun m hm=>?_) (by simp) (by simp) (.inr rfl) rfl trivial (by simp;omega) (by simp[aa.nP]);simp only[]at hm;simp[gS,hq,hn.1];omega
 by_cases DV:k=11
 ·subst DV
  refine fin ⟨(kS b c).1,(kS b (kS b c).2).1,[],2⟩ _ (by unfold gJ;rw[if_neg (by decide),if_neg (by decide),if_neg (by decide),if_neg (by decide),if_pos rfl]) (fun m hm=>?_) (by simp) (by simp) (.inr rfl) rfl trivial (by simp;omega) (by simp[aa.nP]);simp only[]at hm;simp[gS,hq,hn.1,bd.1];omega
 by_cases Gk:k=12
 ·subst Gk
  refine fin ⟨[],[],[],3⟩ _ (by unfold gJ;rw[if_neg (by decide),if_neg (by decide),if_neg (by decide),if_neg (by decide),if_neg (by decide),if_pos rfl]) (fun m hm=>?_) (by simp) (by simp) (.inr rfl) rfl trivial (by simp) (by simp[aa.nP]);simp only[]at hm;simp[gS,hq];omega
 by_cases Iy:k=13
 ·subst Iy
  have h3:=bO (b:=b) (n:=3) (by decide) c;obtain⟨r1,r2,r3⟩:=GAs (nd (Pj (b:=b) hr) (1+(aC b 3 c).1).toNat (aC b 3 c).2);rw[lI]at r3;have hm3:(1+(aC b 3 c).1).toNat*(yK 2+B+1)<=3*(yK 2+B+1):=Nat.mul_le_mul_right _ (by omega);refine fin ⟨[],[],(dD (na b rec) (1+(aC b 3 c).1).toNat (aC b 3 c).2).1,1⟩ _ (by unfold gJ;rw[if_neg (by decide),if_neg (by decide),if_neg (by decide),if_neg (by decide),if_neg (by decide),if_neg (by decide),if_pos rfl]) (fun m hm=>?_) (by simp) (by simp) (.inl rfl) r1 r2 (by simp) (by simp only[];omega);simp only[lI]at hm⊢;have:0<(((1+(aC b 3 c).1).toNat:Nat):Int):=by omega
  simp[gS,hq];omega
 by_cases La:k=14
 ·subst La
  have hs:=nb (b:=b) (l:=[[43],[45],[42],[94],[61],[60],[58,61]]) (P:=fun x=>CH x=true/\x.length<=5) (by simp) (by decide) c;refine fin ⟨_,[],[],2⟩ _ (by unfold gJ;rw[if_neg (by decide),if_neg (by decide),if_neg (by decide),if_neg (by decide),if_neg (by decide),if_neg (by decide),if_neg (by decide),if_pos rfl]) (fun m hm=>?_) (by simp) (by simp) (.inr rfl) rfl trivial (by simp;omega) (by simp[aa.nP]);simp only[]at hm;simp[gS,hq,hs.1];omega
 by_cases Pm:k=15
 ·subst Pm
  have hs:=nb (b:=b) (l:=[[112,114,105,110,116],[101,120,105,116],[115,105,122,101],[114,101,102],[33]]) (P:=fun x=>arity x=1/\x.length<=5) (by simp) (by decide) c;refine fin ⟨_,[],[],1⟩ _ (by unfold gJ;rw[if_neg (by decide),if_neg (by decide),if_neg (by decide),if_neg (by decide),if_neg (by decide),if_neg (by decide),if_neg (by decide),if_neg (by decide),if_pos rfl]) (fun m hm=>?_) (by simp) (by simp) (.inr rfl) rfl trivial (by simp;omega) (by simp[aa.nP]);simp only[]at hm;simp[gS,hq,hs.1];omega
 have:k=9:=by omega
 subst this;refine fin ⟨[],[],[],2⟩ c (by unfold gJ;rfl) (fun m hm=>?_) (by simp) (by simp) (.inr rfl) rfl trivial (by simp) (by simp[aa.nP]);simp only[]at hm;simp[gS,hq];omega
def Iz:Nat->Nat
 |0=>10
 |d+1=>4*Iz d+3*yK 2+20
theorem GE.mono {B C:Nat} {t:aa} (h:GE B t) (hb:B<=C):GE C t:=⟨h.1,h.2.1,Nat.le_trans h.2.2 hb⟩
theorem E3:∀d:Nat,lH (GE (Iz d)) (uO b d)
  |0=>E2
  |d+1=>fun c=>by
   have hb:10≤Iz (d+1):=by rw[Iz];omega
   show GE _ (Iv b (uO b d) c).1;unfold Iv;split
   · exact(E2 _).mono hb
   · have lN:=bO (b:=b) (n:=10) (by decide) (fC b 6 c).2
     have h9:=bO (b:=b) (n:=9) (by decide) (aC b 10 (fC b 6 c).2).2;exact Pk (E3 d) ⟨by omega,by omega⟩ h9.1 _
end
section
variable (b:List Int)
def uP:Int->List Int->Int
 |h,[]=>h
 |h,c::l=>uP (jD .and .i64 (wr .i64 (wr .i64 (wr .i64 (h*137)+wr .i64 c)+11)) 1073741823) l
def AX:gO:=⟨0,uP (80080+b.length) (b.take 4000)⟩
end
section
variable {b:List Int}
end
end Go.Proofs.YteilijfligofdaaGreatDoor.Pg
set_option linter.all false
set_option maxRecDepth 100000
namespace Go.Proofs.YteilijfligofdaaGreatDoor.Mc
open Go.AM
def mc5:bz (Tryz.f5.body.map (compile [0,2] Tryz.prog 6)):=⟨_,by conv=>lhs;cbv⟩
def mr5:List MR:=[.t 2]
theorem call5:ax Tryz.prog 5 6 mc5.m mr5:=mc5.call Tryz.func5 (by kernel_rfl)
def mc6:bz (Tryz.f6.body.map (compile [0,2,3,4,10] Tryz.prog 15)):=⟨_,by conv=>lhs;cbv⟩
def mr6:List MR:=[.cell true 7 2]
theorem call6:ax Tryz.prog 6 15 mc6.m mr6:=mc6.call Tryz.func6 (by kernel_rfl)
def Ti:bz (Tryz.f14.body.map (compile [0,2,3] Tryz.prog 11)):=⟨_,by conv=>lhs;cbv⟩
def aa0:List MR:=[.cell true 8 2]
theorem call14:ax Tryz.prog 14 11 Ti.m aa0:=Ti.call Tryz.func14 (by kernel_rfl)
def Tj:bz (Tryz.f20.body.map (compile [0,2,3,4,15] Tryz.prog 32)):=⟨_,by conv=>lhs;cbv⟩
def aa1:List MR:=[.t 2]
theorem call20:ax Tryz.prog 20 32 Tj.m aa1:=Tj.call Tryz.func20 (by kernel_rfl)
def Lb:bz (Tryz.f104.body.map (compile [0,2,3,34] Tryz.prog 58)):=.of (y:=Tryz.f104.body.map fun c=>(mU [0,2,3,34] Tryz.prog 58 [10,9,12] c).1) (by conv=>lhs;cbv) (by kernel_rfl)
def Tk:List MR:=[.t 2]
theorem call104:ax Tryz.prog 104 58 Lb.m Tk:=Lb.call Tryz.func104 (by kernel_rfl)
def IA:bz (Tryz.f46.body.map (compile [0,1,4,5,6,7,9,11] Tryz.prog 31)):=⟨_,by conv=>lhs;cbv⟩
def Nw:List MR:=[.t 4]
theorem call46:ax Tryz.prog 46 31 IA.m Nw:=IA.call Tryz.func46 (by kernel_rfl)
def Tl:bz (Tryz.f22.body.map (compile [0,1,4] Tryz.prog 9)):=⟨_,by conv=>lhs;cbv⟩
def aa2:List MR:=[.t 4]
theorem call22:ax Tryz.prog 22 9 Tl.m aa2:=Tl.call Tryz.func22 (by kernel_rfl)
def Tm:bz (Tryz.f60.body.map (compile [0,1,4] Tryz.prog 12)):=⟨_,by conv=>lhs;cbv⟩
def aa3:List MR:=[.t 4]
theorem call60:ax Tryz.prog 60 12 Tm.m aa3:=Tm.call Tryz.func60 (by kernel_rfl)
def Tn:bz (Tryz.f58.body.map (compile [0,1,4] Tryz.prog 12)):=⟨_,by conv=>lhs;cbv⟩
def aa4:List MR:=[.t 4]
theorem call58:ax Tryz.prog 58 12 Tn.m aa4:=Tn.call Tryz.func58 (by kernel_rfl)
def To:bz (Tryz.f56.body.map (compile [0,2] Tryz.prog 6)):=⟨_,by conv=>lhs;cbv⟩
def aa5:List MR:=[.t 2]
theorem call56:ax Tryz.prog 56 6 To.m aa5:=To.call Tryz.func56 (by kernel_rfl)
def Tp:bz (Tryz.f55.body.map (compile [0,2] Tryz.prog 6)):=⟨_,by conv=>lhs;cbv⟩
def aa6:List MR:=[.t 2]
theorem call55:ax Tryz.prog 55 6 Tp.m aa6:=Tp.call Tryz.func55 (by kernel_rfl)
def Tq:bz (Tryz.f57.body.map (compile [0,1,4,5,6,7,11,17,23,35,38,44,50,56,59,65] Tryz.prog 78)):=⟨_,by conv=>lhs;cbv⟩
def aa7:List MR:=[.cell true 5 4]
theorem call57:ax Tryz.prog 57 78 Tq.m aa7:=Tq.call Tryz.func57 (by kernel_rfl)
def Tr:bz (Tryz.f59.body.map (compile [0,1,2,6,7,8,12] Tryz.prog 23)):=⟨_,by conv=>lhs;cbv⟩
def aa8:List MR:=[.t 6]
theorem call59:ax Tryz.prog 59 23 Tr.m aa8:=Tr.call Tryz.func59 (by kernel_rfl)
def Ts:bz (Tryz.f54.body.map (compile [0,2,3,11,12,18,24,29,34,40] Tryz.prog 43)):=⟨_,by conv=>lhs;cbv⟩
def aa9:List MR:=[.cell true 7 2]
theorem call54:ax Tryz.prog 54 43 Ts.m aa9:=Ts.call Tryz.func54 (by kernel_rfl)
def Ny:bz (Tryz.f21.body.map (compile [0,1,4,5,6,7,13,23,24,31,36,41,46,54,56,62,77,83] Tryz.prog 95)):=⟨_,by conv=>lhs;cbv⟩
def Tt:List MR:=[.cell true 7 4]
theorem call21:ax Tryz.prog 21 95 Ny.m Tt:=Ny.call Tryz.func21 (by kernel_rfl)
def oB:bz (Tryz.f103.body.map (compile [0,1,4,5,6,7,13,15,19,22,25,31,34,39] Tryz.prog 52)):=⟨_,by conv=>lhs;cbv⟩
def Ab:List MR:=[.cell true 4 4]
theorem call103:ax Tryz.prog 103 52 oB.m Ab:=oB.call Tryz.func103 (by kernel_rfl)
def Tu:bz (Tryz.f45.body.map (compile [0,1,4,5,6,7,8,9,14,22,29,38] Tryz.prog 59)):=⟨_,by conv=>lhs;cbv⟩
def aba:List MR:=[.cell true 8 4]
theorem call45:ax Tryz.prog 45 59 Tu.m aba:=Tu.call Tryz.func45 (by kernel_rfl)
def Yk:bz (Tryz.f4.body.map (compile [0,2,3,4,5,6,8,10,27,30] Tryz.prog 67)):=⟨_,by conv=>lhs;cbv⟩
def mr4:List MR:=[.t 2]
theorem call4:ax Tryz.prog 4 67 Yk.m mr4:=Yk.call Tryz.func4 (by kernel_rfl)
end Go.Proofs.YteilijfligofdaaGreatDoor.Mc
namespace Go.Proofs.YteilijfligofdaaGreatDoor.Qp
open Go.AM Mc Pg
def rL (l:List Int):List (List PV):=l.map fun z=>[.i .u8 z]
theorem jA (l):(rL l).length=l.length:=by simp[rL]
def jm (b:List Int) (c:gO):AO:=.var [.p (.l (rL b)),iV c.i,iV c.h]
theorem Yl (b c q) (h:rj q (jm b c)):Tf q:=by
 simp only[jm,rj,List.mem_cons,List.not_mem_nil,or_false]at h;rcases h with rfl|rfl|rfl<;>exact bw _
def CF (b:List Int) (f:Nat) (xs:List AV) {α:Type} (m:CM α) (V:α->AV):Prop :=
 ∀(H A:List AO) (p:Nat) (c:gO),p<H.length->al Tryz.prog f (.ptr p 0::xs) (H.set p (jm b c)++A) (aP (V (m c).1) (H.set p (jm b (m c).2)++A))
theorem ng {b:List Int} {f:Nat} {xs:List AV} {α:Type} {m:CM α} {V:α->AV}
  (h:∀(H:List AO) (p:Nat) (c:gO),p<H.length->al Tryz.prog f (.ptr p 0::xs) (H.set p (jm b c)) (fun r H'=>∃G,H'=H.set p (jm b (m c).2)++G/\bI H.length H' r (V (m c).1))):CF b f xs m V:=
 fun H A p c hp=>KZ (Yl b _) (fun H p hp=>h H p c hp) H A p hp
theorem CF.nil {b:List Int} {f:Nat} {xs:List AV} {α:Type} {m:CM α} {V:α->AV} (h:CF b f xs m V) {H:List AO} {p:Nat} {c:gO} (hp:p<H.length):
  al Tryz.prog f (.ptr p 0::xs) (H.set p (jm b c)) (aP (V (m c).1) (H.set p (jm b (m c).2))):=by
 have:=h H [] p c hp;rwa[List.append_nil,List.append_nil]at this
theorem CF.chain {b:List Int} {f:Nat} {xs:List AV} {α:Type} {m:CM α} {V:α->AV} (h:CF b f xs m V) {H A:List AO} {p:Nat} {c:gO} (hp:p<H.length):
  ∀A',al Tryz.prog f (.ptr p 0::xs) ((H.set p (jm b c)++A)++A') (aP (V (m c).1) ((H.set p (jm b (m c).2)++A)++A')):=fun A'=>by
 have:=h H (A++A') p c hp;rwa[<-List.append_assoc,<-List.append_assoc]at this
theorem Ym (h:Int):jD .and .i64 (jD .xor .i64 (h.fdiv (2^min 33 64)) (h.fdiv (2^min 47 64))) 255=Iu h:=by
 unfold Iu;rw[show min 33 64=33 by decide,show min 47 64=47 by decide]
theorem Yn (h:Int):wr .i64 (wr .i64 (h*6364136223846793005)+1442695040888963407)=CX h:=by unfold CX;rfl
section
variable {b:List Int} (hb:b.length<=1048576)
include hb
theorem Bs:CF b 104 [] (cO b) iV:=by
 refine ng fun H p c hp=>?_
 refine call104 (by simp) ?_;unfold cO;simp only[go_sem,simprocAttr,Lb,Tk,kP hp,qp hp,qS,qq hp,jm,jA];rw[Yn];generalize CX c.h=m;refine ba ?_;simp only[go_sem,simprocAttr,kP hp,qp hp,qS,qq hp,jA];rw[Ym];generalize Iu m=x;refine ba ?_;by_cases h:c.i<b.length
 ·have d1:decide ((c.i:Int)<(b.length:Int))=true:=by simp;omega
  have hg:(rL b)[c.i]?=some [.i .u8 (b.getD c.i 0)]:=by
   unfold rL;rw[List.getElem?_map,List.getElem?_eq_getElem h,List.getD_eq_getElem?_getD,List.getElem?_eq_getElem h];rfl
  have ei:wr .i64 ((c.i:Int)+1)=((c.i+1:Nat):Int):=cH _ (by omega);simp only[if_pos h];generalize b.getD c.i 0=z at hg⊢;simp only[go_sem,simprocAttr,kP hp,qp hp,qS,qq hp,jA,d1];refine ba ?_
  as_aux_lemma =>
   simp only[go_sem,simprocAttr,kP hp,qp hp,qS,qq hp,jA,hg,ei];exact⟨[],by simp,aZ (bw _)⟩
 ·have d1:decide ((c.i:Int)<(b.length:Int))=false:=by simp;omega
  simp only[if_neg h];simp only[go_sem,simprocAttr,kP hp,qp hp,qS,qq hp,jA,d1];exact⟨[],by simp,aZ (bw _)⟩
theorem dX (n:Int):CF b 46 [iV n] (aC b n) iV:=by
 refine ng fun H p c hp=>?_
 refine call46 (by simp) ?_;unfold aC;by_cases h0:n<=0
 ·have d0:decide (n<=0)=true:=decide_eq_true h0
  rw[if_pos h0];simp only[go_sem,simprocAttr,IA,Nw,d0];exact⟨[],by simp,aZ (bw _)⟩
 have d0:decide (n<=0)=false:=decide_eq_false h0;rw[if_neg h0];by_cases h1:n<=256
 ·have d1:decide (n<=256)=true:=decide_eq_true h1
  rw[if_pos h1];simp only[go_sem,simprocAttr,IA,Nw,d0,d1];refine U ((Bs hb).nil hp) ?_;simp only[go_sem,simprocAttr];exact⟨by omega,[],by simp,aZ (bw _)⟩
 have d1:decide (n<=256)=false:=decide_eq_false h1;rw[if_neg h1];simp only[go_sem,simprocAttr,IA,Nw,d0,d1];have b1:=o8 (b:=b) c;have b2:=o8 (b:=b) (cO b c).2;have b3:=o8 (b:=b) (cO b (cO b c).2).2;refine U ((Bs hb).nil hp) ?_;simp only[go_sem,simprocAttr];refine U ((Bs hb).nil hp) ?_;simp only[go_sem,simprocAttr];refine U ((Bs hb).nil hp) ?_;have e1:wr .i64 ((cO b c).1*65536)=(cO b c).1*65536:=ea (by omega) (by omega);have e2:wr .i64 ((cO b (cO b c).2).1*256)=(cO b (cO b c).2).1*256:=ea (by omega) (by omega);have e3:wr .i64 ((cO b c).1*65536+(cO b (cO b c).2).1*256)=(cO b c).1*65536+(cO b (cO b c).2).1*256:=ea (by omega) (by omega);have e4:wr .i64 ((cO b c).1*65536+(cO b (cO b c).2).1*256+(cO b (cO b (cO b c).2).2).1)=(cO b c).1*65536+(cO b (cO b c).2).1*256+(cO b (cO b (cO b c).2).2).1:=ea (by omega) (by omega);simp only[go_sem,simprocAttr,e1,e2,e3,e4];exact⟨by omega,[],by simp,aZ (bw _)⟩
theorem nw (n:Int):CF b 22 [iV n] (fC b n) bV:=by
 refine ng fun H p c hp=>?_
 refine call22 (by simp) ?_;simp only[go_sem,simprocAttr,Tl,aa2];refine U ((dX hb n).nil hp) ?_;simp only[go_sem,simprocAttr];exact⟨[],by simp[fC],aZ (bw _)⟩
theorem uQ {L:List (List UInt8)} (hL:L≠[]) {H A:List AO} {p:Nat} {c:gO} {k:Nat} (hp:p<H.length) (hk:A[k]?=some (.rows 1 0 (L.map fun s=>[sV s]))):
  al Tryz.prog 58 [.ptr p 0,.gs (H.length+k) 0 0 L.length] (H.set p (jm b c)++A) (aP (sV (jP b L c).1) (H.set p (jm b (jP b L c).2)++A)):=by
 refine call58 (by simp) ?_;simp only[go_sem,simprocAttr,Tn,aa4];intro _;refine U (dX hb L.length H _ p c hp) ?_;have hl:=bO (b:=b) (n:=L.length) (by have:=List.length_pos_iff.2 hL;omega) c;unfold jP;obtain⟨j,hj⟩:∃j:Nat,(aC b L.length c).1=j:=⟨(aC b L.length c).1.toNat,by omega⟩;rw[hj]at hl⊢;have jE:j<L.length:=by omega
 have hg:(L.map fun s=>[sV s])[j]?=some [sV (L.getD j [])]:=by
  rw[List.getElem?_map,List.getElem?_eq_getElem jE,List.getD_eq_getElem?_getD,List.getElem?_eq_getElem jE];rfl
 simp only[go_sem,simprocAttr,hk,hg];exact⟨hl.2,rfl,rfl⟩
theorem adi {L:List Int} (hL:L≠[]) {H A:List AO} {p:Nat} {c:gO} {k:Nat} (hp:p<H.length) (hk:A[k]?=some (.rows 1 0 (L.map fun s=>[iV s]))):
  al Tryz.prog 60 [.ptr p 0,.gs (H.length+k) 0 0 L.length] (H.set p (jm b c)++A) (aP (iV (wy b L c).1) (H.set p (jm b (wy b L c).2)++A)):=by
 refine call60 (by simp) ?_;simp only[go_sem,simprocAttr,Tm,aa3];intro _;refine U (dX hb L.length H _ p c hp) ?_;have hl:=bO (b:=b) (n:=L.length) (by have:=List.length_pos_iff.2 hL;omega) c;unfold wy;obtain⟨j,hj⟩:∃j:Nat,(aC b L.length c).1=j:=⟨(aC b L.length c).1.toNat,by omega⟩;rw[hj]at hl⊢;have jE:j<L.length:=by omega
 have hg:(L.map fun s=>[iV s])[j]?=some [iV (L.getD j 0)]:=by
  rw[List.getElem?_map,List.getElem?_eq_getElem jE,List.getD_eq_getElem?_getD,List.getElem?_eq_getElem jE];rfl
 simp only[go_sem,simprocAttr,hk,hg];exact⟨hl.2,rfl,rfl⟩
theorem vG:CF b 56 [] (kS b) sV:=by
 refine ng fun H p c hp=>?_
 refine call56 (by simp) ?_;simp only[go_sem,simprocAttr,To,aa5];refine U (uQ hb (L:=[[120],[121],[102],[103],[110],[120,115]]) (by simp) (k:=0) hp (by rfl)) ?_;simp only[go_sem,simprocAttr];exact⟨_,rfl,aZ (bw _)⟩
theorem IB:CF b 55 [] (kD b) sV:=by
 refine ng fun H p c hp=>?_
 refine call55 (by simp) ?_;simp only[go_sem,simprocAttr,Tp,aa6];refine U (uQ hb (L:=[[78,105,108],[67,111,110,115],[65],[66],[83,111,109,101]]) (by simp) (k:=0) hp (by rfl)) ?_;simp only[go_sem,simprocAttr];exact⟨_,rfl,aZ (bw _)⟩
end
theorem hx {H:List AO} {p:Nat} (hp:p<H.length) (A:List AO) (c:AO):cA (H.set p .dead++A) (H.set p c++A):=fun id o h hd=>by
 rcases Nat.lt_or_ge id H.length with hi|hi
 ·rw[List.getElem?_append_left (by simpa using hi)]at h⊢
  by_cases e:p=id
  ·subst e
   simp[hp]at h;exact(hd h.symm).elim
  ·rw[List.getElem?_set_ne e]at h⊢;exact h
 ·rw[List.getElem?_append_right (by simpa using hi)]at h⊢
  simpa using h
theorem PF.chain {pv:PS->AO} {T:List Tok} {lim:Nat} {f:Nat} {xs:List AV} {α:Type} {m:PM α} {V:α->AV} (h:PF pv T lim f xs m V) {H A:List AO} {p:Nat} {s:PS} (hp:p<H.length) (hs:Ok T lim s):
  ∀A',al Tryz.prog f (.ptr p 0::xs) ((H.set p (pv s)++A)++A') (aP (V (m s).1) ((H.set p (pv (m s).2)++A)++A')):=fun A'=>by
 have:=h H (A++A') p s hp hs;rwa[<-List.append_assoc,<-List.append_assoc]at this
theorem rM {H A:List AO} {p:Nat} {c:AO} {id:Nat} (h:H.length<=id):(H.set p c++A)[id]?=A[id-H.length]?:=by
 have:=lq H A p c (id-H.length);rwa[show H.length+(id-H.length)=id by omega]at this
theorem CZ {H A B:List AO} {p:Nat} {N:List Nat} {c d:AO} {a:AV} {sz:Nat} {rs:List (List AV)} (h:iG (H.set p c++A) a sz rs) (ha:∀id v o m,a=.gs id v o m->H.length<=id/\id-H.length∉N) (hk:∀(k:Nat) (o:AO),k∉N->A[k]?=some o->B[k]?=some o):iG (H.set p d++B) a sz rs:=by
 rcases h with h|⟨id,ver,rfl,h⟩
 ·exact .inl h
 ·obtain⟨h1,h2⟩:=ha _ _ _ _ rfl
  rw[rM h1]at h;exact .inr ⟨id,ver,rfl,by rw[rM h1];exact hk _ _ h2 h⟩
theorem C0 {K:St->Prop} {L T':En} {H A:List AO} {p:Nat} {c:AO} {d:MD} {sz bytes:Nat} {N:List Nat} {a:AV} {rs ys:List (List AV)} (h:iG (H.set p c++A) a sz rs) (hN:∀k∈N,k<A.length) (ha:∀id v o m,a=.gs id v o m->H.length<=id/\id-H.length∉N)
  (h1:(rs.length+ys.length)*bytes<=140737488355328) (h2:rs.length+ys.length<=140737488355328)
  (k:∀id ver A',(H.set p c++A')[id]?=some (.rows sz ver (rs++ys))->(H.length<=id/\id-H.length∉N)->(∀(k:Nat),k∈N->A'[k]?=A[k]?)->K (St.put ⟨L,T',H.set p c++A'⟩ d (.gs id ver 0 (rs.length+ys.length)))):
  lR sz bytes a ys d K ⟨L,T',H.set p c++A⟩:=by
 refine gb h h1 h2 ?_;intro id ver H4 k1 k2 k3 k4
 have hid:H.length<=id/\id-H.length∉N:=by
  rcases k2 with⟨v,o,n,e⟩|h
  ·exact ha _ _ _ _ e
  ·simp at h
   exact⟨by omega,fun hm=>by have:=hN _ hm;omega⟩
 obtain⟨A',rfl⟩:=gH (H:=H.set p c) (H':=H4) fun j o hj=>k3 j o (ag hj A) fun v o' n e=>by
  have:=(ha _ _ _ _ e).1;have:=aT hj;simp at this;omega
 refine k id ver A' k1 hid (fun j hj=>?_);have hjA:=hN j hj
 have:=k3 (H.length+j) A[j] (by rw[lq];simp[hjA]) fun v o' n e=>by
  have:=(ha _ _ _ _ e).2;rw[Nat.add_sub_cancel_left]at this;exact this hj
 rw[lq]at this;rw[this];simp[hjA]
inductive fp (n:Nat) (H:List AO):List AV->List AV->Prop
 |nil:fp n H [] []
 |cons {a b:AV} {l m:List AV} (h:bI n H a b) (k:fp n H l m):fp n H (a::l) (b::m)
theorem fp.pc {n:Nat} {H:List AO} {x:PV} {l m:List AV} (k:fp n H l m):fp n H (.p x::l) (.p x::m):=.cons (.p x) k
theorem fp.pure {n:Nat} {H:List AO}:∀l:List PV,fp n H (l.map .p) (l.map .p)
 |[]=>.nil
 |x::l=>.pc (fp.pure l)
theorem fp.st {n:Nat} {H:List AO} {l m:List AV} (h:fp n H l m):bI n H (.st l) (.st m):=by
  have hl:l.length=m.length∧∀(j:Nat) a b,l[j]?=some a→m[j]?=some b→bI n H a b:=by
    induction h with
    |nil=>exact⟨rfl,fun j a b h=>by simp at h⟩
    |cons h _ ih=>
     refine⟨by simp[ih.1],fun j a b ha hb=> ?_⟩
     cases j with
     |zero=>simp at ha hb;subst ha;subst hb;exact h
     |succ j=>exact ih.2 j a b (by simpa using ha) (by simpa using hb)
  exact .st _ _ hl.1 hl.2
theorem iG.mI {n sz:Nat} {H:List AO} {a:AV} {ys:List (List PV)} (h:iG H a sz (ys.map fun y=>y.map .p)) (hn:∀id v o m,a=.gs id v o m->n<=id) (hs:∀y∈ys,y.length=sz):bI n H a (.p (.l ys)):=by
 rcases h with⟨rfl,h⟩|⟨id,ver,rfl,h⟩
 ·have:ys=[]:=by simpa using h
  rw[this];exact .nl
 ·have:=cS (hn _ _ _ _ rfl) h hs
  simpa using this
abbrev Ac (t:af):AV:=.st (t.cells.map .p)
theorem abb (t:af):t.cells.length=4:=by cases t;rfl
theorem pN {n:Nat} {H:List AO} {k q:Int} {nm:List UInt8} {a:AV} {l:List af} (h:bI n H a (.p (.l (af.aJ l)))):bI n H (.st [iV k,sV nm,iV q,a]) (Ac (.mk k nm q l)):=
 fp.st (.pc (.pc (.pc (.cons h .nil))))
structure Lp {α:Type} (pv:PS->AO) (T:List Tok) (lim:Nat) (H:List AO) (p:Nat) (N:List Nat) (sz:Nat) (cell:α->List PV) (g:PS->Bool) (m:PM α) (Rl:List α) (Rs:PS) (j:Nat) (s:PS) (acc:List α) (a:AV) (A:List AO):Prop where
 ok:Ok T lim s
 ln:acc.length<=s.i+1
 fu:s.c=0->T.length-s.i<=j
 rl:acc++(many g m j s).1=Rl
 rs:(many g m j s).2=Rs
 own:iG (H.set p (pv s)++A) a sz (acc.map fun t=>(cell t).map .p)
 ids:∀id v o m,a=.gs id v o m->H.length<=id/\id-H.length∉N
 len:∀k∈N,k<A.length
section
variable {α:Type} {pv:PS->AO} {T:List Tok} {lim:Nat} {H:List AO} {p sz:Nat} {N:List Nat} {cell:α->List PV} {g:PS->Bool} {m:PM α} {Rl:List α} {Rs:PS} {j:Nat} {s:PS} {acc:List α} {a:AV} {A:List AO}
theorem Lp.start (hs:Ok T lim s) (h:many g m T.length s=(Rl,Rs)) (hb:∀k∈N,k<A.length):Lp pv T lim H p N sz cell g m Rl Rs T.length s [] (.p .nl) A:=
 ⟨hs,Nat.zero_le _,fun _=>by omega,by rw[h];rfl,by rw[h],.inl ⟨rfl,rfl⟩,(fun _ _ _ _ e=>by cases e),hb⟩
theorem Lp.nx {x:α} {i ver:Nat} (hs:Ok T lim s) (h:many g m T.length s=(Rl,Rs)) (hb:∀k∈N,k<A.length) (hi:A[i]?=some (.rows sz ver [(cell x).map .p])) (hN:i∉N):Lp pv T lim H p N sz cell g m (x::Rl) Rs T.length s [x] (.gs (H.length+i) ver 0 1) A:=
 ⟨hs,by simp,fun _=>by omega,by rw[h];rfl,by rw[h],.inr ⟨_,_,rfl,by rw[lq];exact hi⟩,(fun _ _ _ _ e=>by cases e;exact⟨by omega,by rwa[Nat.add_sub_cancel_left]⟩),hb⟩
theorem Lp.stop (h:Lp pv T lim H p N sz cell g m Rl Rs j s acc a A) (hg:g s=false):acc=Rl/\s=Rs:=by
 have h1:=h.rl;have h2:=h.rs;rw[kC hg]at h1 h2;exact⟨by simpa using h1,h2⟩
theorem Lp.succ (h:Lp pv T lim H p N sz cell g m Rl Rs j s acc a A) (ho:eI T g) (hg:g s=true):∃j',j=j'+1:=⟨j-1,by have:=h.fu (ho s hg).1;have:=h.ok.1;omega⟩
theorem Lp.next (h:Lp pv T lim H p N sz cell g m Rl Rs (j+1) s acc a A) (ho:eI T g) (hg:g s=true) {x:α} {s2:PS} (hm:m s=(x,s2)) (bt:Ok T lim s2) (cG:s.i<s2.i) {id ver:Nat} {A' A'':List AO}
  (k1:(H.set p (pv s2)++A')[id]?=some (.rows sz ver (acc.map (fun t=>(cell t).map .p)++[(cell x).map .p]))) (k2:H.length<=id/\id-H.length∉N) (k3:∀(k:Nat) (o:AO),k∉N->A'[k]?=some o->A''[k]?=some o) (k4:∀k∈N,k<A''.length):
  Lp pv T lim H p N sz cell g m Rl Rs j s2 (acc++[x]) (.gs id ver 0 (acc.length+1)) A'':=by
 have h1:=h.rl;have h2:=h.rs;rw[many,if_pos hg,hm]at h1 h2;have C1:=h.ln;have hi:=h.ok.1;refine⟨bt,by simp;omega,fun hc=>?_,by simpa using h1,h2,.inr ⟨id,ver,by simp,?_⟩,(fun jC v o m' e=>by cases e;exact k2),k4⟩
 ·have:=h.fu (ho s hg).1;omega
 ·rw[rM k2.1]at k1⊢
  rw[List.map_append];exact k3 _ _ k2.2 k1
theorem Lp.mI (h:Lp pv T lim H p N sz cell g m Rl Rs j s acc a A) {c:AO} {B:List AO} (hk:∀(k:Nat) (o:AO),k∉N->A[k]?=some o->B[k]?=some o) (hs:∀t,(cell t).length=sz):bI H.length (H.set p c++B) a (.p (.l (acc.map cell))):=by
 refine iG.mI (ys:=acc.map cell) (sz:=sz) ?_ (fun id v o m e=>(h.ids _ _ _ _ e).1) (by intro y hy;obtain⟨t,_,rfl⟩:=List.mem_map.1 hy;exact hs t);rw[List.map_map];exact CZ h.own h.ids hk
theorem Lp.app {K:St->Prop} {L T':En} {d:MD} {bytes:Nat} {c:AO} {B:List AO} {y:List AV} (h:Lp pv T lim H p N sz cell g m Rl Rs j s acc a A) (hB:∀(k:Nat) (o:AO),A[k]?=some o->B[k]?=some o) (aK:T.length<=1073741825) (Gl:bytes<=1000)
  (k:∀id ver A',(H.set p c++A')[id]?=some (.rows sz ver (acc.map (fun t=>(cell t).map .p)++[y]))->(H.length<=id/\id-H.length∉N)->(∀k:Nat,k∈N->A'[k]?=A[k]?)->K (St.put ⟨L,T',H.set p c++A'⟩ d (.gs id ver 0 (acc.length+1)))):
  lR sz bytes a [y] d K ⟨L,T',H.set p c++B⟩:=by
 have C1:=h.ln;have hi:=h.ok.1
 have Ld:∀k∈N,k<B.length:=fun k hk=>by
  have yL:=h.len k hk;exact aT (hB k A[k] (by simp[yL]))
 have hl:(acc.map fun t=>(cell t).map AV.p).length=acc.length:=by simp
 refine C0 (rs:=acc.map fun t=>(cell t).map .p) (ys:=[y]) (CZ h.own h.ids fun k o _ hk=>hB k o hk) Ld h.ids (by rw[hl];simp;exact Nat.le_trans (Nat.mul_le_mul (show acc.length+1<=1073741827 by omega) Gl) (by decide)) (by rw[hl];simp;omega) ?_;intro id ver A' k1 k2 k3;rw[hl];refine k id ver A' k1 k2 (fun j hj=>?_);rw[k3 j hj];have jE:=h.len j hj;rw[hB j A[j] (by simp[jE])];simp[jE]
end
theorem pO (H A B:List AO) (p:Nat) (c:AO) (k:Nat):(H.set p c++(A++B))[H.length+A.length+k]?=B[k]?:=by
 rw[show H.length+A.length+k=H.length+(A.length+k)by omega,lq,eZ]
theorem cD {A:List AO} {N:List Nat} {i:Nat} (hi:i∈N) {o:AO}:∀(k:Nat) (o':AO),k∉N->A[k]?=some o'->(A.set i o)[k]?=some o':=fun k o' hk h=>by rw[List.getElem?_set_ne (by rintro rfl;exact hk hi)];exact h
section
variable {T:List Tok} {lim e:Nat} (hT:bH T) (aK:T.length<=1073741825)
include hT aK
theorem Tv:PF (bG T lim) T e 215 [] (sy (iT T)) bV:=by
 refine dm (dt T lim) fun H p s hp hs=>?_
 refine call215 (by simp) ?_;simp only[go_sem,simprocAttr,KY,SJ];refine U (kb.nil hp hs) ?_;unfold iT bp;simp only[go_sem,simprocAttr,kP hp,bG,Tok.cells];cases h0:decide (s.c=0)
 ·have hi:aH T [40] s=false:=pz (of_decide_eq_false h0)
  simp only[go_sem,simprocAttr,h0,hi,Bool.false_and,Bool.or_self];exact⟨[],by simp,aZ (bw _)⟩
 cases h5:decide ((aD T s).k=5)
 ·cases h3:decide ((aD T s).k=3)
  ·simp only[go_sem,simprocAttr,h0,h5,h3]
   refine U ((Bb [40]).nil hp hs) ?_;simp only[go_sem,simprocAttr,Bool.true_and,Bool.false_or];exact⟨[],by simp[bG],aZ (bw _)⟩
  ·simp only[go_sem,simprocAttr,h0,h5,h3,Bool.true_and,Bool.or_true,Bool.true_or]
   exact⟨[],by simp,aZ (bw _)⟩
 ·simp only[go_sem,simprocAttr,h0,h5,Bool.true_and,Bool.true_or]
  exact⟨[],by simp,aZ (bw _)⟩
theorem Yo {ty:PM af} (eY:PF (bG T lim) T e 175 [] ty Ac) (kY:ab T ty):PF (bG T lim) T e 214 [] (dR T ty) Ac:=by
 refine dm (dt T lim) fun H p s hp hs=>?_
 refine call214 (by simp) ?_;simp only[go_sem,simprocAttr,F6,KX];refine U (kb H _ p s hp hs) ?_;by_cases h0:s.c=0
 ·by_cases yM:(aD T s).k=5
  ·have h5:bp T 5 s=true:=by simp[bp,h0,yM]
   simp only[go_sem,simprocAttr,qp hp,qq hp,bG,Tok.cells,dT h0,dT yM,ws aK hs];have iN:dR T ty s=(.mk 2 (aD T s).t (aD T s).p [],aE s):=by unfold dR;rw[bE,aQ h5];rfl
   rw[iN];exact⟨_,rfl,pN (by rw[af.aJ];exact .nl)⟩
  have h5:bp T 5 s=false:=by simp[bp,yM]
  by_cases sM:(aD T s).k=3
  ·have h3:bp T 3 s=true:=by simp[bp,h0,sM]
   simp only[go_sem,simprocAttr,qp hp,qq hp,bG,Tok.cells,dT h0,dF yM,dT sM,ws aK hs];have iN:dR T ty s=(.mk 1 (aD T s).t (aD T s).p [],aE s):=by unfold dR;rw[bE,aU h5,aQ h3];rfl
   rw[iN];exact⟨_,rfl,pN (by rw[af.aJ];exact .nl)⟩
  have h3:bp T 3 s=false:=by simp[bp,sM]
  have e0:∀r,ty (aS T [40] s)=r->dR T ty s=(r.1,aS T [41] r.2):=fun r hr=>by
   unfold dR;rw[bE,aU h5,aU h3,cV,aN,hr];rfl
  simp only[go_sem,simprocAttr,qp hp,qq hp,bG,Tok.cells,dT h0,dF yM,dF sM];refine U (gY aK [40] H _ p s hp hs) ?_;have bx:=hs.step (aG hT [40]);simp only[go_sem,simprocAttr];refine U (eY H _ p _ hp bx) ?_;have bt:=bx.run kY;rcases hr:ty (aS T [40] s)with⟨⟨k,n,q,ks⟩,s2⟩
  rw[hr]at bt;rw[e0 _ hr];simp only[go_sem,simprocAttr,af.cells];refine U (gY aK [41] H _ p s2 hp bt) ?_;simp only[go_sem,simprocAttr];exact⟨_,rfl,aZ (dP (af.cells (.mk k n q ks)))⟩
 ·have h5:bp T 5 s=false:=wX h0
  have h3:bp T 3 s=false:=wX h0
  have e0:∀r,ty (aS T [40] s)=r->dR T ty s=(r.1,aS T [41] r.2):=fun r hr=>by
   unfold dR;rw[bE,aU h5,aU h3,cV,aN,hr];rfl
  simp only[go_sem,simprocAttr,qp hp,qq hp,bG,Tok.cells,dF h0];refine U (gY aK [40] H _ p s hp hs) ?_;have bx:=hs.step (aG hT [40]);simp only[go_sem,simprocAttr];refine U (eY H _ p _ hp bx) ?_;have bt:=bx.run kY;rcases hr:ty (aS T [40] s)with⟨⟨k,n,q,ks⟩,s2⟩
  rw[hr]at bt;rw[e0 _ hr];simp only[go_sem,simprocAttr,af.cells];refine U (gY aK [41] H _ p s2 hp bt) ?_;simp only[go_sem,simprocAttr];exact⟨_,rfl,aZ (dP (af.cells (.mk k n q ks)))⟩
theorem IC {ty:PM af} (kY:ab T ty) {s:PS} (hi:s.i<T.length) (hg:iT T s=true):s.i<(dR T ty s).2.i:=by
 unfold dR;rw[bE]
 cases h5:bp T 5 s with
 |true=>rw[aQ h5];simp[aO,aE]
 |false =>
 rw[aU h5]
 cases h3:bp T 3 s with
 |true=>rw[aQ h3];simp[aO,aE]
 |false =>
 rw[aU h3,cV];have hb:aH T [40] s=true:=by simpa[iT,h5,h3]using hg
 have iN:aS T [40] s=aE s:=by unfold aS;rw[if_pos hb]
 have ha:=si hT hi (cB hb).2;rw[iN];have:=(ab.bind kY fun o=>ab.step (aG hT [41]) (ab.ret o)) (aE s) (by simpa[aE]using ha);have h1:=this.1;simp only[aE]at h1⊢;omega
theorem Tw {ty:PM af} {s:PS} (h0:s.c=0) (hs:Ok T e s) (sM:(aD T s).k=3):∀(H A:List AO) (p:Nat),p<H.length->al Tryz.prog 214 [.ptr p 0] (H.set p (bG T lim s)++A) (aP (.st [iV 1,sV (aD T s).t,iV (aD T s).p,.p .nl]) (H.set p (bG T lim (aE s))++A)):=by
 refine KZ (dt T lim _) fun H p hp=>?_
 have yM:¬(aD T s).k=5:=by omega
 refine call214 (by simp) ?_;simp only[go_sem,simprocAttr,F6,KX];refine U (kb H _ p s hp hs) ?_;simp only[go_sem,simprocAttr,qp hp,qq hp,bG,Tok.cells,dT h0,dF yM,dT sM,ws aK hs];exact⟨_,rfl,.tf _ (JP _ (by intro q hq;simp only[List.mem_cons,List.not_mem_nil,or_false]at hq;rcases hq with rfl|rfl|rfl|rfl<;>exact bw _))⟩
theorem Po {ty:PM af} (eY:PF (bG T lim) T e 175 [] ty Ac) (kY:ab T ty):PF (bG T lim) T e 206 [] (iu T T.length ty) Ac:=by
 have hA:=Yo hT aK eY kY;have sA:=ji hT kY;refine dm (dt T lim) fun H p s hp hs=>?_
 refine call206 (by simp) ?_;simp only[go_sem,simprocAttr,KW,SI];refine U (kb H _ p s hp hs) ?_;simp only[go_sem,simprocAttr,Tok.cells];refine U (nZ aK [114,101,102] H _ p s hp hs) ?_;unfold di;cases hr:aH T [114,101,102] s
 ·simp only[go_sem,simprocAttr,hr]
  by_cases hk:s.c=0/\(aD T s).k=3
  ·obtain⟨h0,sM⟩:=hk
   have bx:=hs.aE hT (show(aD T s).k≠8 by omega);have h5:bp T 5 s=false:=by simp[bp,sM]
   have h3:bp T 3 s=true:=by simp[bp,h0,sM]
   have e1:dR T ty s=(.mk 1 (aD T s).t (aD T s).p [],aE s):=by unfold dR;rw[bE,aU h5,aQ h3];rfl
   have iN:iu T T.length ty s=(.mk 1 (aD T s).t (aD T s).p (many (iT T) (dR T ty) T.length (aE s)).1,(many (iT T) (dR T ty) T.length (aE s)).2):=by
    unfold iu;rw[bE,aU hr,aN,e1];simp only[if_pos sM];rfl
   rw[iN];refine U (Tw hT aK (ty:=ty) h0 hs sM H _ p hp) ?_;simp only[go_sem,simprocAttr,dT sM];generalize hR:many (iT T) (dR T ty) T.length (aE s)=R;generalize (aD T s).t=tt at *;generalize (aD T s).p=tp at *;obtain⟨Rl,Rs⟩:=R
   refine⟨Nat×PS×List af×AV×List AO,[0,2,4],fun x st=>(Lp (bG T lim) T e H p [0,2] 4 af.cells (iT T) (dR T ty) Rl Rs x.1 x.2.1 x.2.2.1 x.2.2.2.1 x.2.2.2.2/\x.2.2.2.2[0]?=some (.var [iV 0,sV [],iV 0,.p .nl])/\x.2.2.2.2[2]?=some (.var [iV 1,sV tt,iV tp,x.2.2.2.1]))/\
     st=⟨[(0,.ptr p 0),(2,.ptr H.length 0),(4,.ptr (H.length+2) 0)],[],H.set p (bG T lim x.2.1)++x.2.2.2.2⟩,fun x=>T.length-x.2.1.i,⟨(T.length,aE s,[],.p .nl,[.var [iV 0,sV [],iV 0,.p .nl],.var [iV (aD T s).k,sV tt,iV (aD T s).n,iV tp],.var [iV 1,sV tt,iV tp,.p .nl]]),?_⟩,?_⟩
   ·simp only[go_sem,simprocAttr]
    exact Lp.start bx hR (by simp)
   ·rintro⟨j,s',acc,a,A⟩ _ ⟨⟨hL,i8,i9⟩,rfl⟩
    simp only at hL i8 i9⊢;simp only[go_sem,simprocAttr];refine U (Tv hT aK H _ p s' hp hL.ok) ?_;cases hg:iT T s'
    ·obtain⟨rfl,rfl⟩:=hL.stop hg
     have hz:∀o,(A.set 0 o)[0]?=some o:=fun o=>aR i8
     simp only[go_sem,simprocAttr,hg,i9,i8,hz];exact⟨_,rfl,pN (by rw[af.bD];exact hL.mI (cD (by decide)) abb)⟩
    ·obtain⟨j,rfl⟩:=hL.succ only_tySt hg
     have cG:=IC hT aK kY hL.ok.1 hg;have bt:=hL.ok.run sA;simp only[go_sem,simprocAttr,hg];refine⟨_,hx hp _ _,?_⟩;simp only[go_sem,simprocAttr,i9];refine aL _ _ (by simp) (hx hp _ _) (hA.chain hp hL.ok) ?_;rcases hq:dR T ty s' with⟨⟨k,n,q,ks⟩,s2⟩
     rw[hq]at cG bt;simp only[go_sem,simprocAttr,af.cells,pO];refine⟨by intro r hr;simp at hr;subst hr;rfl,?_⟩;refine hL.app (fun k o h=>ag h _) aK (by decide) ?_;intro id ver A' k1 k2 k3;have j0:=(k3 0 (by decide)).trans i8;have j2:=(k3 2 (by decide)).trans i9;have gy:=aT j2;have hz:∀o,(A'.set 2 o)[2]?=some o:=fun o=>aR j2
     simp only[go_sem,simprocAttr,j2];exact⟨(j,s2,acc++[.mk k n q ks],.gs id ver 0 (acc.length+1),A'.set 2 (.var [iV 1,sV tt,iV tp,.gs id ver 0 (acc.length+1)])),⟨⟨hL.next only_tySt hg hq bt cG k1 k2 (cD (by decide)) (by simp;omega),aM j0 (by decide),hz _⟩,rfl⟩,by have h1:s'.i<s2.i:=cG;have:=hL.ok.1;simp only;omega⟩
  ·refine U (hA H _ p s hp hs) ?_
   have bx:=hs.run sA;have bc:=(sA s hs.1).2.2.1;rcases hq:dR T ty s with⟨⟨k,n,q,ks⟩,s1⟩
   rw[hq]at bx bc;by_cases sM:(aD T s).k=3
   ·have hc:s.c≠0:=fun h=>hk ⟨h,sM⟩
    obtain rfl:s1=s:=bc hc;have hg:iT T s1=false:=by unfold iT;rw[wX hc,wX hc,pz hc];rfl
    have iN:iu T T.length ty s1=(.mk k n q ks,s1):=by
     unfold iu;rw[bE,aU hr,aN,hq];simp only[if_pos sM];rw[aN,kC hg];simp[aO,af.put]
    rw[iN];simp only[go_sem,simprocAttr,af.cells,dT sM];refine⟨Unit,[0,2,4],fun _ st=>st=⟨[(0,.ptr p 0),(2,.ptr H.length 0),(4,.ptr (H.length+2) 0)],[],H.set p (bG T lim s1)++[.var [iV 0,sV [],iV 0,.p .nl],.var [iV (aD T s1).k,sV (aD T s1).t,iV (aD T s1).n,iV (aD T s1).p],.var [iV k,sV n,iV q,.p (.l (af.aJ ks))]]⟩,fun _=>0,⟨(),?_⟩,?_⟩
    ·simp only[go_sem,simprocAttr,sM]
    ·rintro _ _ rfl
     simp only[go_sem,simprocAttr];refine U (Tv hT aK H _ p s1 hp bx) ?_;simp only[go_sem,simprocAttr,hg];exact⟨_,rfl,aZ (dP (af.cells (.mk k n q ks)))⟩
   ·have iN:iu T T.length ty s=(.mk k n q ks,s1):=by
     unfold iu;rw[bE,aU hr,aN,hq];simp only[if_neg sM];rfl
    rw[iN];simp only[go_sem,simprocAttr,af.cells,dF sM];exact⟨_,rfl,aZ (dP (af.cells (.mk k n q ks)))⟩
 ·simp only[go_sem,simprocAttr,hr]
  have ht:=cB hr;have bx:=hs.aE hT ht.2;refine⟨_,hx hp _ _,?_⟩;simp only[go_sem,simprocAttr];refine aL _ _ (by simp) (hx hp _ _) (hA.chain hp bx) ?_;rcases hq:dR T ty (aE s)with⟨⟨k,n,q,ks⟩,s1⟩
  have iN:iu T T.length ty s=(.mk 5 [] (aD T s).p [.mk k n q ks],s1):=by
   unfold iu;rw[bE,aQ hr,aN,hq];rfl
  rw[iN];simp only[go_sem,simprocAttr,af.cells];exact⟨_,rfl,pN (cS (n:=H.length) (ys:=[af.cells (.mk k n q ks)]) (by omega) (by rw[Nat.add_zero,lq];rfl) (by intro y hy;simp at hy;subst hy;rfl))⟩
theorem Pp {ty:PM af} (kY:ab T ty) {s:PS} (hi:s.i<T.length) (hg:aH T [42] s=true):s.i<(bM (iu T T.length ty) s).2.i:=
 (gR.aE hT (lE hT kY) hi (cB hg).2).1
theorem adj {ty:PM af} (eY:PF (bG T lim) T e 175 [] ty Ac) (kY:ab T ty):PF (bG T lim) T e 196 [] (wq T T.length ty) Ac:=by
 have hA:=Po hT aK eY kY;have sA:=lE (N:=T.length) hT kY;refine dm (dt T lim) fun H p s hp hs=>?_
 refine call196 (by simp) ?_;simp only[go_sem,simprocAttr,KV,SG];refine U (hA H _ p s hp hs) ?_;have bx:=hs.run sA;rcases hq:iu T T.length ty s with⟨⟨k,n,q,ks⟩,s1⟩
 rw[hq]at bx;simp only[go_sem,simprocAttr,af.cells];refine U (Bb [42] H _ p s1 hp bx) ?_;cases xo:aH T [42] s1
 ·have iN:wq T T.length ty s=(.mk k n q ks,s1):=by unfold wq;rw[aN,hq,jj xo];rfl
  rw[iN];simp only[go_sem,simprocAttr,xo];exact⟨_,rfl,aZ (dP (af.cells (.mk k n q ks)))⟩
 ·rcases hR:many (aH T [42]) (bM (iu T T.length ty)) T.length s1 with⟨Rl,Rs⟩
  have iN:wq T T.length ty s=(.mk 4 [] q (.mk k n q ks::Rl),Rs):=by unfold wq;rw[aN,hq,fE xo,aN,hR];rfl
  rw[iN];simp only[go_sem,simprocAttr,xo]
  refine⟨Nat×PS×List af×AV×List AO,[0,2,4],fun x st=>(Lp (bG T lim) T e H p [0,3] 4 af.cells (aH T [42]) (bM (iu T T.length ty)) (.mk k n q ks::Rl) Rs x.1 x.2.1 x.2.2.1 x.2.2.2.1 x.2.2.2.2/\x.2.2.2.2[0]?=some (.var [iV 0,sV [],iV 0,.p .nl])/\x.2.2.2.2[3]?=some (.var [iV 4,sV [],iV q,x.2.2.2.1]))/\
    st=⟨[(0,.ptr p 0),(2,.ptr H.length 0),(4,.ptr (H.length+3) 0)],[],H.set p (bG T lim x.2.1)++x.2.2.2.2⟩,fun x=>T.length-x.2.1.i,⟨(T.length,s1,[.mk k n q ks],.gs (H.length+2) 0 0 1,[.var [iV 0,sV [],iV 0,.p .nl],.var [iV k,sV n,iV q,.p (.l (af.aJ ks))],.rows 4 0 [[iV k,sV n,iV q,.p (.l (af.aJ ks))]],.var [iV 4,sV [],iV q,.gs (H.length+2) 0 0 1]]),?_⟩,?_⟩
  ·simp only[go_sem,simprocAttr,Nat.add_zero]
   exact Lp.nx bx hR (by simp) rfl (by decide)
  ·rintro⟨j,s',acc,a,A⟩ _ ⟨⟨hL,i8,i9⟩,rfl⟩
   simp only at hL i8 i9⊢;simp only[go_sem,simprocAttr];refine U (nZ aK [42] H _ p s' hp hL.ok) ?_;unfold di;cases hg:aH T [42] s'
   ·obtain⟨rfl,rfl⟩:=hL.stop hg
    have hz:∀o,(A.set 0 o)[0]?=some o:=fun o=>aR i8
    simp only[go_sem,simprocAttr,hg,i9,i8,hz];exact⟨_,rfl,pN (by rw[af.bD];exact hL.mI (cD (by decide)) abb)⟩
   ·obtain⟨j,rfl⟩:=hL.succ (aw T _) hg
    have cG:=Pp hT aK kY hL.ok.1 hg;have dB:=hL.ok.aE hT (cB hg).2;have bt:=dB.run sA;simp only[go_sem,simprocAttr,hg];refine⟨_,hx hp _ _,?_⟩;simp only[go_sem,simprocAttr,i9];refine aL _ _ (by simp) (hx hp _ _) (hA.chain hp dB) ?_;have hqq:bM (iu T T.length ty) s'=iu T T.length ty (aE s'):=rfl;rcases hq:iu T T.length ty (aE s')with⟨⟨k,n,q,ks⟩,s2⟩
    rw[hqq,hq]at cG;rw[hq]at bt;simp only[go_sem,simprocAttr,af.cells,pO];refine⟨by intro r hr;simp at hr;subst hr;rfl,?_⟩;refine hL.app (fun k o h=>ag h _) aK (by decide) ?_;intro id ver A' k1 k2 k3;have j0:=(k3 0 (by decide)).trans i8;have j2:=(k3 3 (by decide)).trans i9;have gy:=aT j2;have hz:∀o,(A'.set 3 o)[3]?=some o:=fun o=>aR j2
    simp only[go_sem,simprocAttr,j2];refine⟨(j,s2,acc++[.mk k n q ks],.gs id ver 0 (acc.length+1),A'.set 3 (.var [iV 4,sV [],_,.gs id ver 0 (acc.length+1)])),⟨⟨hL.next (aw T _) hg (hqq.trans hq) bt cG k1 k2 (cD (by decide)) (by simp;omega),aM j0 (by decide),hz _⟩,rfl⟩,by have h1:s'.i<s2.i:=cG;have:=hL.ok.1;simp only;omega⟩
theorem Ad {s:PS} (hs:Ok T e s):(cz T lim s).i=s.i/\(cz T lim s).nest=s.nest+1/\((cz T lim s).c=0->Ok T (e+1) (cz T lim s)/\e≠lim):=by
 have h1:=hs.1;have h2:=hs.2;by_cases h0:s.c=0
 ·by_cases hn:s.nest=lim
  ·have iN:cz T lim s={dI T 12 s with nest:=s.nest+1}:=by
    rw[vC (if_pos ⟨h0,hn⟩),iJ h0,if_neg (fun h=>absurd h.1 (show ¬((12:Int)=0)by decide))]
   rw[iN,iJ h0];exact⟨rfl,rfl,fun h=>absurd h (show ¬((12:Int)=0)by decide)⟩
  ·rw[vC (if_neg fun h=>hn h.2)]
   split
   ·exact⟨rfl,rfl,fun _=>⟨⟨h1,by simp only;omega⟩,by omega⟩⟩
   ·exact⟨rfl,rfl,fun _=>⟨⟨h1,by simp only;omega⟩,by omega⟩⟩
 ·rw[yh h0]
  exact⟨rfl,rfl,fun h=>absurd h h0⟩
theorem agv (hl:lim<=1099511627776) (he:e<=lim) {ty:PM af} (eY:e<lim->PF (bG T lim) T (e+1) 175 [] ty Ac) (kY:ab T ty):PF (bG T lim) T e 175 [] (HI T T.length lim ty) Ac:=by
 have sA:=Cs (N:=T.length) hT kY;refine dm (dt T lim) fun H p s hp hs=>?_
 obtain⟨o1,o2,o3⟩:=Ad (lim:=lim) hT aK hs;have hi:=hs.1;have hn:=hs.2;refine call175 (by simp) ?_;simp only[go_sem,simprocAttr,KO,Sx];refine U (F7 hl he H _ p s hp hs) ?_;unfold HI qf;cases hc:decide ((cz T lim s).c=0)
 ·rw[if_neg (of_decide_eq_false hc)]
  simp only[go_sem,simprocAttr,hc];refine U (sF hl H _ p (cz T lim s) hp (by omega) (by omega) (by omega)) ?_;simp only[go_sem,simprocAttr];exact⟨_,rfl,pN (by rw[af.aJ];exact .nl)⟩
 ·obtain⟨bx,cK⟩:=o3 (of_decide_eq_true hc)
  have eY:=eY (by omega);have hA:=adj hT aK eY kY;rw[if_pos (of_decide_eq_true hc)];simp only[go_sem,simprocAttr,hc];refine U (hA H _ p _ hp bx) ?_;have bt:=bx.run sA;have wS:=sA _ bx.1;rcases hq:wq T T.length ty (cz T lim s)with⟨⟨k,n,q,ks⟩,s2⟩
  rw[hq]at bt wS;have e1:∀K:af->PM af,az (wq T T.length ty) K (cz T lim s)=K (.mk k n q ks) s2:=fun K=>by rw[aN,hq]
  rw[e1];simp only[go_sem,simprocAttr,af.cells];refine U (nZ aK [45,62] H _ p s2 hp bt) ?_;unfold di;cases hg:aH T [45,62] s2
  ·rw[aU hg]
   have bd:s2.nest=s.nest+1:=wS.2.2.2.trans o2;simp only[go_sem,simprocAttr,hg];refine U (sF hl H _ p s2 hp bt.1 (by omega) (by omega)) ?_;simp only[go_sem,simprocAttr];exact⟨_,rfl,aZ (dP (af.cells (.mk k n q ks)))⟩
  ·rw[aQ hg]
   have dB:=bt.aE hT (cB hg).2;have eA:=dB.run kY;have Tx:=kY _ dB.1;simp only[go_sem,simprocAttr,hg];refine⟨_,hx hp _ _,?_⟩;simp only[go_sem,simprocAttr];refine aL _ _ (by simp) (hx hp _ _) (eY.chain hp dB) ?_;rcases dC:ty (aE s2)with⟨⟨k',n',q',fY⟩,s3⟩
   rw[dC]at eA Tx;have e2:∀K:af->PM af,az ty K (aE s2)=K (.mk k' n' q' fY) s3:=fun K=>by rw[aN,dC]
   rw[e2];have hn3:s3.nest=s.nest+1:=Tx.2.2.2.trans (wS.2.2.2.trans o2);simp only[go_sem,simprocAttr,af.cells];refine U (sF hl H _ p s3 hp eA.1 (by omega) (by omega)) ?_;simp only[go_sem,simprocAttr,Nat.add_zero];exact⟨_,rfl,pN (cS (n:=H.length) (ys:=[af.cells (.mk k n q ks),af.cells (.mk k' n' q' fY)]) (by omega) (by rw[lq];rfl) (by intro y hy;simp at hy;rcases hy with rfl|rfl<;>rfl))⟩
theorem abc (hl:lim<=1099511627776):∀k e,e+k=lim+1->0<k->PF (bG T lim) T e 175 [] (OK T T.length lim k) Ac
 |0,e,_,h=>absurd h (by omega)
 |k+1,e,h,_=>agv hT aK hl (by omega) (fun aF=>abc hl k (e+1) (by omega) (by omega)) (vy hT lim k)
end
structure Lk {α:Type} (b:List Int) (H:List AO) (p:Nat) (N:List Nat) (sz:Nat) (cell:α->List PV) (m:CM α) (R:List α×gO) (j:Nat) (c:gO) (acc:List α) (a:AV) (A:List AO):Prop where
 rl:acc++(dD m j c).1=R.1
 rs:(dD m j c).2=R.2
 ln:acc.length+j<=1000
 own:iG (H.set p (jm b c)++A) a sz (acc.map fun t=>(cell t).map .p)
 ids:∀id v o m,a=.gs id v o m->H.length<=id/\id-H.length∉N
 len:∀k∈N,k<A.length
section
variable {α:Type} {b:List Int} {H:List AO} {p sz:Nat} {N:List Nat} {cell:α->List PV} {m:CM α} {R:List α×gO} {j:Nat} {c:gO} {acc:List α} {a:AV} {A:List AO}
theorem Lk.stop (h:Lk b H p N sz cell m R 0 c acc a A):acc=R.1/\c=R.2:=by
 have h1:=h.rl;have h2:=h.rs;exact⟨by simpa[dD]using h1,h2⟩
theorem Lk.next (h:Lk b H p N sz cell m R (j+1) c acc a A) {x:α} {c2:gO} (hm:m c=(x,c2)) {id ver:Nat} {A' A'':List AO}
  (k1:(H.set p (jm b c2)++A')[id]?=some (.rows sz ver (acc.map (fun t=>(cell t).map .p)++[(cell x).map .p]))) (k2:H.length<=id/\id-H.length∉N) (k3:∀(k:Nat) (o:AO),k∉N->A'[k]?=some o->A''[k]?=some o) (k4:∀k∈N,k<A''.length):
  Lk b H p N sz cell m R j c2 (acc++[x]) (.gs id ver 0 (acc.length+1)) A'':=by
 have h1:=h.rl;have h2:=h.rs;rw[dD,hm]at h1 h2;have C1:=h.ln;refine⟨by simpa using h1,h2,by simp;omega,.inr ⟨id,ver,by simp,?_⟩,(fun jC v o m' e=>by cases e;exact k2),k4⟩;rw[rM k2.1]at k1⊢;rw[List.map_append];exact k3 _ _ k2.2 k1
theorem Lk.mI (h:Lk b H p N sz cell m R j c acc a A) {d:AO} {B:List AO} (hk:∀(k:Nat) (o:AO),k∉N->A[k]?=some o->B[k]?=some o) (hs:∀t,(cell t).length=sz):bI H.length (H.set p d++B) a (.p (.l (acc.map cell))):=by
 refine iG.mI (ys:=acc.map cell) (sz:=sz) ?_ (fun id v o m e=>(h.ids _ _ _ _ e).1) (by intro y hy;obtain⟨t,_,rfl⟩:=List.mem_map.1 hy;exact hs t);rw[List.map_map];exact CZ h.own h.ids hk
theorem Lk.app {K:St->Prop} {L T':En} {d:MD} {bytes:Nat} {o:AO} {B:List AO} {y:List AV} (h:Lk b H p N sz cell m R j c acc a A) (hB:∀(k:Nat) (o:AO),A[k]?=some o->B[k]?=some o) (Gl:bytes<=1000) (hj:0<j)
  (k:∀id ver A',(H.set p o++A')[id]?=some (.rows sz ver (acc.map (fun t=>(cell t).map .p)++[y]))->(H.length<=id/\id-H.length∉N)->(∀k:Nat,k∈N->A'[k]?=A[k]?)->K (St.put ⟨L,T',H.set p o++A'⟩ d (.gs id ver 0 (acc.length+1)))):
  lR sz bytes a [y] d K ⟨L,T',H.set p o++B⟩:=by
 have C1:=h.ln
 have Ld:∀k∈N,k<B.length:=fun k hk=>by
  have yL:=h.len k hk;exact aT (hB k A[k] (by simp[yL]))
 have hl:(acc.map fun t=>(cell t).map AV.p).length=acc.length:=by simp
 refine C0 (rs:=acc.map fun t=>(cell t).map .p) (ys:=[y]) (CZ h.own h.ids fun k o _ hk=>hB k o hk) Ld h.ids (by rw[hl];simp;exact Nat.le_trans (Nat.mul_le_mul (show acc.length+1<=1001 by omega) Gl) (by decide)) (by rw[hl];simp;omega) ?_;intro id ver A' k1 k2 k3;rw[hl];refine k id ver A' k1 k2 (fun j hj=>?_);rw[k3 j hj];have jE:=h.len j hj;rw[hB j A[j] (by simp[jE])];simp[jE]
end
abbrev Gm (t:ae):AV:=.st (t.cells.map .p)
theorem C2 (t:ae):t.cells.length=5:=by cases t;rfl
theorem ke {n:Nat} {H:List AO} {k u q:Int} {nm:List UInt8} {a:AV} {l:List ae} (h:bI n H a (.p (.l (ae.aJ l)))):bI n H (.st [iV k,sV nm,iV u,iV q,a]) (Gm (.mk k nm u q l)):=
 fp.st (.pc (.pc (.pc (.pc (.cons h .nil)))))
section
variable {b:List Int} (hb:b.length<=1048576)
include hb
theorem Nz {dep:Int} {lf:Bool} {rec:CM ae} (hlf:decide (dep≤0)=lf) (hd:-10≤dep∧dep≤100) (lJ:lf=false →CF b 57 [iV (dep-1)] rec Gm):CF b 57 [iV dep] (Nu b lf rec) Gm:=by
  refine ng fun H p c hp=> ?_
  refine call57 (by simp) ?_;simp only[go_sem,simprocAttr,Tq,aa7];refine U (dX hb 9 H _ p c hp) ?_;simp only[go_sem,simprocAttr,hlf];have e1:wr .i64 (dep-1)=dep-1:=ea (by omega) (by omega)
  have hs:0≤(if lf then aC b 5 (aC b 9 c).2 else aC b 9 c).1∧(if lf then aC b 5 (aC b 9 c).2 else aC b 9 c).1<9∧(lf=true →(if lf then aC b 5 (aC b 9 c).2 else aC b 9 c).1<5):=by
    have h9:=bO (b:=b) (n:=9) (by decide) c;have h5:=bO (b:=b) (n:=5) (by decide) (aC b 9 c).2;cases lf<;>simp <;>omega
  unfold Nu;simp only[];generalize Yp:(if lf then aC b 5 (aC b 9 c).2 else aC b 9 c)=s at hs⊢;obtain⟨k,c1⟩:=s;obtain⟨hk0,hk9,yM⟩:=hs;simp only at hk0 hk9 yM;rcases hq:aC b 9 c1 with⟨q,c2⟩
  cases lf
  case' false =>
    simp only[Bool.false_eq_true,if_false]at Yp;simp only[go_sem,simprocAttr,Yp];refine U (dX hb 9 H _ p _ hp) ?_;simp only[go_sem,simprocAttr,hq]
  case' true =>
    simp only[if_true]at Yp;simp only[go_sem,simprocAttr];refine U (dX hb 5 H _ p _ hp) ?_;simp only[go_sem,simprocAttr,Yp];refine U (dX hb 9 H _ p _ hp) ?_;simp only[go_sem,simprocAttr,hq]
  all_goals unfold Nt
  all_goals by_cases k0:k=0
  all_goals first
    |(rw[if_pos k0]
      simp only[go_sem,simprocAttr,dT k0]
      exact⟨_,rfl,ke (by rw[ae.aJ];exact .nl)⟩)
    |rw[if_neg k0]
  all_goals simp only[go_sem,simprocAttr,dF k0]
  all_goals by_cases k1:k=1
  all_goals first
    |(rw[if_pos k1]
      simp only[go_sem,simprocAttr,dT k1];refine U (vG hb H _ p _ hp) ?_;simp only[go_sem,simprocAttr]
      exact⟨_,rfl,ke (by rw[ae.aJ];exact .nl)⟩)
    |rw[if_neg k1]
  all_goals simp only[go_sem,simprocAttr,dF k1]
  all_goals by_cases k2:k=2
  all_goals first
    |(rw[if_pos k2]
      simp only[go_sem,simprocAttr,dT k2];refine U (dX hb 4 H _ p _ hp) ?_;simp only[go_sem,simprocAttr]
      exact⟨_,rfl,ke (by rw[ae.aJ];exact .nl)⟩)
    |rw[if_neg k2]
  all_goals simp only[go_sem,simprocAttr,dF k2]
  all_goals by_cases k3:k=3
  all_goals first
    |(rw[if_pos k3]
      simp only[go_sem,simprocAttr,dT k3];refine U (dX hb 2 H _ p _ hp) ?_;simp only[go_sem,simprocAttr]
      exact⟨_,rfl,ke (by rw[ae.aJ];exact .nl)⟩)
    |rw[if_neg k3]
  all_goals simp only[go_sem,simprocAttr,dF k3]
  all_goals by_cases k4:k=4
  all_goals first
    |(rw[if_pos k4]
      simp only[go_sem,simprocAttr,dT k4]
      exact⟨_,rfl,ke (by rw[ae.aJ];exact .nl)⟩)
    |rw[if_neg k4]
  · exact absurd (yM rfl) (by omega)
  have lJ:=lJ rfl;simp only[go_sem,simprocAttr,dF k4];by_cases k5:k=5
  · rw[if_pos k5]
    simp only[go_sem,simprocAttr,dT k5];refine U (IB hb H _ p _ hp) ?_;simp only[go_sem,simprocAttr];exact⟨_,rfl,ke (by rw[ae.aJ];exact .nl)⟩
  rw[if_neg k5];simp only[go_sem,simprocAttr,dF k5];by_cases k6:k=6
  · rw[if_pos k6]
    simp only[go_sem,simprocAttr,dT k6];refine U (IB hb H _ p _ hp) ?_;simp only[go_sem,simprocAttr,e1];refine U (lJ H _ p _ hp) ?_;rcases hr:rec (kD b c2).2 with⟨⟨k',n',u',q',fY⟩,c3⟩
    simp only[go_sem,simprocAttr,ae.cells];exact⟨_,rfl,ke (cS (n:=H.length) (ys:=[ae.cells (.mk k' n' u' q' fY)]) (by omega) (by rw[lq];rfl) (by intro y hy;simp at hy;subst hy;rfl))⟩
  rw[if_neg k6];simp only[go_sem,simprocAttr,dF k6];refine U (dX hb 2 H _ p _ hp) ?_;have h2:=bO (b:=b) (n:=2) (by decide) c2;rcases hm:aC b 2 c2 with⟨m,c3⟩
  rw[hm]at h2;simp only at h2;obtain⟨J,hJ⟩:∃J:Nat,2+m=J:=⟨(2+m).toNat,by omega⟩;have eJ:wr .i64 (2+m)=(J:Int):=by rw[ea (by omega) (by omega),hJ]
  have eJ2:(2+m).toNat=J:=by omega
  rw[eJ2];simp only[go_sem,simprocAttr,eJ];generalize hR:dD rec J c3=R
  refine⟨Nat×gO×List ae×AV×List AO,[0,1,4,6,7],fun x st=>(Lk b H p [0,1] 5 ae.cells rec R x.1 x.2.1 x.2.2.1 x.2.2.2.1 x.2.2.2.2∧x.2.2.2.2[0]?=some (.var [iV 0,sV [],iV 0,iV 0, .p .nl])∧x.2.2.2.2[1]?=some (.var [iV 6,sV [],iV 0,iV q,x.2.2.2.1]))∧
    st=⟨[(0, .ptr p 0),(1,iV dep),(4, .ptr H.length 0),(6, .ptr (H.length+1) 0),(7,iV x.1)],[],H.set p (jm b x.2.1)++x.2.2.2.2⟩,fun x=>x.1,⟨(J,c3,[], .p .nl,[.var [iV 0,sV [],iV 0,iV 0, .p .nl], .var [iV 6,sV [],iV 0,iV q, .p .nl]]), ?_⟩, ?_⟩
  · simp only[go_sem,simprocAttr]
    exact⟨by rw[hR];rfl,by rw[hR],by simp;omega, .inl ⟨rfl,rfl⟩,(fun _ _ _ _ e=>by cases e),by simp⟩
  · rintro⟨j,c,acc,a,A⟩ _ ⟨⟨hL,i8,i9⟩,rfl⟩
    simp only at hL i8 i9⊢;have C1:=hL.ln
    cases j with
    |zero=>
     obtain⟨rfl,rfl⟩:=hL.stop;have hz:∀o,(A.set 0 o)[0]?=some o:=fun o=>aR i8
     simp only[go_sem,simprocAttr,i9,i8,hz]
     exact⟨_,rfl,ke (by rw[ae.bD];exact hL.mI (cD (by decide)) C2)⟩
    |succ j=>
     have d1:decide (0<((j+1:Nat):Int))=true :=by simp <;>omega
     have ej:wr .i64 (((j+1:Nat):Int)-1)=(j:Int):=by rw[ea (by omega) (by omega)];omega
     simp only[go_sem,simprocAttr,d1];refine⟨_,hx hp _ _, ?_⟩;simp only[go_sem,simprocAttr,i9,e1];refine aL _ _ (by simp) (hx hp _ _) (lJ.chain hp) ?_;rcases hq:rec c with⟨⟨k',n',u',q',fY⟩,c4⟩
     simp only[go_sem,simprocAttr,ae.cells,pO];refine⟨by intro r hr;simp at hr;subst hr;rfl, ?_⟩;refine hL.app (fun k o h=>ag h _) (by decide) (by omega) ?_;intro id ver A' k1 k2 k3;have j0:=(k3 0 (by decide)).trans i8;have j1:=(k3 1 (by decide)).trans i9;have abd:=aT j1;have hz:∀o,(A'.set 1 o)[1]?=some o:=fun o=>aR j1
     simp only[go_sem,simprocAttr,j1,ej];exact⟨(j,c4,acc++[.mk k' n' u' q' fY], .gs id ver 0 (acc.length+1),A'.set 1 (.var [iV 6,sV [],iV 0,iV q, .gs id ver 0 (acc.length+1)])),⟨⟨hL.next hq k1 k2 (cD (by decide)) (by simp;omega),aM j0 (by decide),hz _⟩,rfl⟩,by simp only;omega⟩
theorem Ty:∀d:Nat,d≤50→CF b 57 [iV d] (uN b d) Gm
  |0,_ =>Nz hb (dep:=0) (lf:=true) (by decide) (by decide) (fun h=>by cases h)
  |d+1,h=>Nz hb (dep:=((d+1:Nat):Int)) (lf:=false) (by simp) (by omega) (fun _ =>by
   have :=Ty d (by omega);rwa[show((d+1:Nat):Int)-1=(d:Int)by omega])
end
abbrev Ae (t:aa):AV:=.st (t.cells.map .p)
theorem C3 (t:aa):t.cells.length=7:=by cases t;rfl
theorem Le (t:ar):t.cells.length=12:=by cases t;rw[ar.cells,List.length_append,C2,C3]
theorem eE {n:Nat} {H:List AO} {k u q:Int} {nm t:List UInt8} {a c:AV} {l:List aa} {m:List ar} (h:bI n H a (.p (.l (aa.aJ l)))) (h2:bI n H c (.p (.l (aa.bL m)))):bI n H (.st [iV k,sV nm,iV u,sV t,iV q,a,c]) (Ae (.mk k nm u t q l m)):=
 fp.st (.pc (.pc (.pc (.pc (.pc (.cons h (.cons h2 .nil)))))))
theorem rN {n:Nat} {H:List AO}:bI n H (.p .nl) (.p (.l (aa.aJ []))):=by rw[aa.aJ];exact .nl
theorem gK {n:Nat} {H:List AO}:bI n H (.p .nl) (.p (.l (aa.bL []))):=by rw[aa.bL];exact .nl
section
variable {b:List Int} (hb:b.length<=1048576)
include hb
theorem NA:CF b 54 [] (sL b) Ae:=by
 refine ng fun H p c hp=>?_
 refine call54 (by simp) ?_;simp only[go_sem,simprocAttr,Ts,aa9];refine U (dX hb 6 H _ p c hp) ?_;simp only[go_sem,simprocAttr];refine U (dX hb 9 H _ p _ hp) ?_;have h6:=bO (b:=b) (n:=6) (by decide) c;rcases hk:aC b 6 c with⟨k0,c1⟩
 rw[hk]at h6;simp only at h6;rcases hq:aC b 9 c1 with⟨q,c2⟩
 have eb:sL b c=if(fC b 8 (jl b (1+k0) q c2).2).1 then(leaf 15 [114,101,97,100] 0 [] 0,(fC b 8 (jl b (1+k0) q c2).2).2)else((jl b (1+k0) q c2).1,(fC b 8 (jl b (1+k0) q c2).2).2):=by
  unfold sL;simp only[hk,hq]
 rw[eb];have e1:wr .i64 (1+k0)=1+k0:=ea (by omega) (by omega);obtain⟨k,pV⟩:∃k,1+k0=k:=⟨_,rfl⟩;rw[pV]at e1⊢;simp only[go_sem,simprocAttr,pV,e1];by_cases k1:k=1
 ·have el:jl b k q c2=(leaf k [] (wy b [0,3,17,9223372036854775807] c2).1 [] q,(wy b [0,3,17,9223372036854775807] c2).2):=by unfold jl;rw[if_pos k1,k1]
  rw[el];simp only[go_sem,simprocAttr,dT k1];refine U (adi hb (L:=[0,3,17,9223372036854775807]) (by simp) (k:=2) hp (by rfl)) ?_;simp only[go_sem,simprocAttr];refine U (nw hb 8 H _ p _ hp) ?_;split <;>rename_i h<;>try rw[Bool.not_eq_true]at h
  all_goals (simp only[go_sem,simprocAttr,h];exact⟨_,rfl,eE rN gK⟩)
 simp only[go_sem,simprocAttr,dF k1];by_cases k2:k=2
 ·have el:jl b k q c2=(leaf k [] 0 (jP b [[],[104,105],[97,34,98],[10]] c2).1 q,(jP b [[],[104,105],[97,34,98],[10]] c2).2):=by unfold jl;rw[if_neg k1,if_pos k2,k2]
  rw[el];simp only[go_sem,simprocAttr,dT k2];refine U (uQ hb (L:=[[],[104,105],[97,34,98],[10]]) (by simp) (k:=2) hp (by rfl)) ?_;simp only[go_sem,simprocAttr];refine U (nw hb 8 H _ p _ hp) ?_;split <;>rename_i h<;>try rw[Bool.not_eq_true]at h
  all_goals (simp only[go_sem,simprocAttr,h];exact⟨_,rfl,eE rN gK⟩)
 simp only[go_sem,simprocAttr,dF k2];by_cases k3:k=3
 ·have el:jl b k q c2=(leaf k [] (aC b 2 c2).1 [] q,(aC b 2 c2).2):=by unfold jl;rw[if_neg k1,if_neg k2,if_pos k3,k3]
  rw[el];simp only[go_sem,simprocAttr,dT k3];refine U (dX hb 2 H _ p _ hp) ?_;simp only[go_sem,simprocAttr];refine U (nw hb 8 H _ p _ hp) ?_;split <;>rename_i h<;>try rw[Bool.not_eq_true]at h
  all_goals (simp only[go_sem,simprocAttr,h];exact⟨_,rfl,eE rN gK⟩)
 simp only[go_sem,simprocAttr,dF k3];by_cases k5:k=5
 ·have el:jl b k q c2=(leaf k (kS b c2).1 0 [] q,(kS b c2).2):=by unfold jl;rw[if_neg k1,if_neg k2,if_neg k3,if_pos k5,k5]
  rw[el];simp only[go_sem,simprocAttr,dT k5];refine U (vG hb H _ p _ hp) ?_;simp only[go_sem,simprocAttr];refine U (nw hb 8 H _ p _ hp) ?_;split <;>rename_i h<;>try rw[Bool.not_eq_true]at h
  all_goals (simp only[go_sem,simprocAttr,h];exact⟨_,rfl,eE rN gK⟩)
 simp only[go_sem,simprocAttr,dF k5];by_cases k6:k=6
 ·have el:jl b k q c2=(leaf k (kD b c2).1 0 [] q,(kD b c2).2):=by unfold jl;rw[if_neg k1,if_neg k2,if_neg k3,if_neg k5,if_pos k6,k6]
  rw[el];simp only[go_sem,simprocAttr,dT k6];refine U (IB hb H _ p _ hp) ?_;simp only[go_sem,simprocAttr];refine U (nw hb 8 H _ p _ hp) ?_;split <;>rename_i h<;>try rw[Bool.not_eq_true]at h
  all_goals (simp only[go_sem,simprocAttr,h];exact⟨_,rfl,eE rN gK⟩)
 simp only[go_sem,simprocAttr,dF k6];have el:jl b k q c2=(leaf k [] 0 [] q,c2):=by unfold jl;rw[if_neg k1,if_neg k2,if_neg k3,if_neg k5,if_neg k6]
 rw[el];refine U (nw hb 8 H _ p _ hp) ?_;split <;>rename_i h<;>try rw[Bool.not_eq_true]at h
 all_goals (simp only[go_sem,simprocAttr,h];exact⟨_,rfl,eE rN gK⟩)
theorem ny {d:Int} {rec:CM aa} (hd:-10≤d∧d≤100) (lJ:CF b 21 [iV (d-1)] rec Ae) (m:Nat) (hm:m≤100):CF b 59 [iV d,iV m] (dD rec m) (fun l=> .p (.l (aa.aJ l))):=by
  refine ng fun H p c hp=> ?_
  refine call59 (by simp) ?_;simp only[go_sem,simprocAttr,Tr,aa8];have e1:wr .i64 (d-1)=d-1:=ea (by omega) (by omega);generalize hR:dD rec m c=R
  refine⟨Nat×gO×List aa×AV×List AO,[0,1,2,6,7,8],fun x st=>(Lk b H p [] 7 aa.cells rec R x.1 x.2.1 x.2.2.1 x.2.2.2.1 x.2.2.2.2∧x.2.2.1.length+x.1=m)∧
    st=⟨[(0, .ptr p 0),(1,iV d),(2,iV m),(6, .p .nl),(7,x.2.2.2.1),(8,iV x.2.2.1.length)],[],H.set p (jm b x.2.1)++x.2.2.2.2⟩,fun x=>x.1,⟨(m,c,[], .gs H.length 0 0 0,[.rows 7 0 []]), ?_⟩, ?_⟩
  · simp only[go_sem,simprocAttr]
    exact⟨by rw[hR];rfl,by rw[hR],by simp;omega, .inr ⟨H.length,0,rfl,by rw[qx0];rfl⟩,(fun _ _ _ _ e=>by cases e;exact⟨by omega,by simp⟩),by simp⟩
  · rintro⟨j,c,acc,a,A⟩ _ ⟨⟨hL,hj⟩,rfl⟩
    simp only at hL hj⊢
    cases j with
    |zero=>
     obtain⟨rfl,rfl⟩:=hL.stop;have d1:decide ((R.1.length:Int)<(m:Int))=false :=by simp;omega
     simp only[go_sem,simprocAttr,d1]
     exact⟨_,rfl,by rw[aa.bD];exact hL.mI (fun _ _ _ h=>h) C3⟩
    |succ j=>
     have d1:decide ((acc.length:Int)<(m:Int))=true :=by simp;omega
     have ej:wr .i64 ((acc.length:Int)+1)=((acc.length+1:Nat):Int):=cH _ (by omega);simp only[go_sem,simprocAttr,d1,e1];refine U (lJ H _ p _ hp) ?_;rcases hq:rec c with⟨⟨k',n',u',t',q',fY,bf⟩,c4⟩
     simp only[go_sem,simprocAttr,aa.cells];refine⟨by intro r hr;simp at hr;subst hr;rfl, ?_⟩;refine hL.app (bytes:=104) (fun k o h=>ag h _) (by decide) (by omega) ?_;intro id ver A' k1 k2 k3;simp only[go_sem,simprocAttr,ej];exact⟨(j,c4,acc++[.mk k' n' u' t' q' fY bf], .gs id ver 0 (acc.length+1),A'),⟨⟨hL.next hq k1 k2 (fun _ _ _ h=>h) (by simp),by simp;omega⟩,by simp⟩,by simp only;omega⟩
end
theorem kZ {b:List Int} {rec:CM aa} {k q:Int} {c c2:gO} {h:Hd} (e:gJ b rec k c=(h,c2)):Aa b rec k q c=(.mk k h.n 0 h.t q (dD rec h.m.toNat c2).1 h.bf,(dD rec h.m.toNat c2).2):=by unfold Aa;simp only[e]
section
variable {b:List Int} (hb:b.length<=1048576)
include hb
theorem Yq {dep:Int} {rec:CM aa} (hd:0<dep∧dep≤100) (lJ:CF b 21 [iV (dep-1)] rec Ae):CF b 21 [iV dep] (Iv b rec) Ae:=by
  refine ng fun H p c hp=> ?_
  refine call21 (by simp) ?_;have d0:decide (dep≤0)=false :=decide_eq_false (by omega);have e1:wr .i64 (dep-1)=dep-1:=ea (by omega) (by omega);simp only[go_sem,simprocAttr,Ny,Tt,d0];refine U (nw hb 6 H _ p c hp) ?_;unfold Iv;rcases ho:fC b 6 c with⟨o,c1⟩
  cases o;rotate_left
  · simp only[if_true]
    simp only[go_sem,simprocAttr];refine U (NA hb H _ p _ hp) ?_;rcases hq:sL b c1 with⟨⟨k',n',u',t',q',fY,bf⟩,c4⟩
    simp only[go_sem,simprocAttr,aa.cells];exact⟨_,rfl,aZ (dP (aa.cells (.mk k' n' u' t' q' fY bf)))⟩
  simp only[Bool.false_eq_true,if_false];simp only[go_sem,simprocAttr];refine U (dX hb 10 H _ p _ hp) ?_;simp only[go_sem,simprocAttr];refine U (dX hb 9 H _ p _ hp) ?_;have lN:=bO (b:=b) (n:=10) (by decide) c1;rcases hk:aC b 10 c1 with⟨k0,c2⟩
  rw[hk]at lN;simp only at lN;rcases hq:aC b 9 c2 with⟨q,c3⟩
  obtain⟨k,pV⟩:∃k,6+k0=k:=⟨_,rfl⟩;have e2:wr .i64 k=k:=ea (by omega) (by omega);simp only[pV];have hk6:6≤k∧k≤15:=by omega
  simp only[go_sem,simprocAttr,e2];by_cases k6:k=6
  · rw[kZ (h:=⟨(kD b c3).1,[],[],(aC b 2 (kD b c3).2).1⟩) (c2:=(aC b 2 (kD b c3).2).2) (by unfold gJ;rw[if_pos k6])]
    simp only;have h2:=bO (b:=b) (n:=2) (by decide) (kD b c3).2;simp only[go_sem,simprocAttr,dT k6];refine U (IB hb H _ p _ hp) ?_;simp only[go_sem,simprocAttr];refine U (dX hb 2 H _ p _ hp) ?_;simp only[go_sem,simprocAttr];obtain⟨M,hM⟩:∃M:Nat,(aC b 2 (kD b c3).2).1=M:=⟨(aC b 2 (kD b c3).2).1.toNat,by omega⟩;rw[hM]at h2⊢;rw[Int.toNat_natCast];refine U (ny hb ⟨by omega,by omega⟩ lJ M (by omega) H _ p _ hp) ?_;simp only[go_sem,simprocAttr];exact⟨_,rfl,eE (.p _) gK⟩
  simp only[go_sem,simprocAttr,dF k6];by_cases k7:k=7
  · rw[kZ (h:=⟨[],[],[],2+(aC b 2 c3).1⟩) (c2:=(aC b 2 c3).2) (by unfold gJ;rw[if_neg k6,if_pos k7])]
    simp only;have h2:=bO (b:=b) (n:=2) (by decide) c3;simp only[go_sem,simprocAttr,dT k7];refine U (dX hb 2 H _ p _ hp) ?_;simp only[go_sem,simprocAttr];obtain⟨M,hM⟩:∃M:Nat,2+(aC b 2 c3).1=M:=⟨(2+(aC b 2 c3).1).toNat,by omega⟩;have eM:wr .i64 (M:Int)=(M:Int):=ea (by omega) (by omega);rw[hM,Int.toNat_natCast];simp only[go_sem,simprocAttr,eM];refine U (ny hb ⟨by omega,by omega⟩ lJ M (by omega) H _ p _ hp) ?_;simp only[go_sem,simprocAttr];exact⟨_,rfl,eE (.p _) gK⟩
  simp only[go_sem,simprocAttr,dF k7];by_cases k8:k=8
  · rw[kZ (h:=⟨(kS b c3).1,[],[],1⟩) (c2:=(kS b c3).2) (by unfold gJ;rw[if_neg k6,if_neg k7,if_pos k8])]
    simp only;simp only[go_sem,simprocAttr,dT k8];refine U (vG hb H _ p _ hp) ?_;simp only[go_sem,simprocAttr];refine U (ny hb ⟨by omega,by omega⟩ lJ 1 (by omega) H _ p _ hp) ?_;simp only[go_sem,simprocAttr];exact⟨_,rfl,eE (.p _) gK⟩
  simp only[go_sem,simprocAttr,dF k8];by_cases CY:k=10
  · rw[kZ (h:=⟨(kS b c3).1,[],[],2⟩) (c2:=(kS b c3).2) (by unfold gJ;rw[if_neg k6,if_neg k7,if_neg k8,if_pos CY])]
    simp only;simp only[go_sem,simprocAttr,dT CY];refine U (vG hb H _ p _ hp) ?_;simp only[go_sem,simprocAttr];refine U (ny hb ⟨by omega,by omega⟩ lJ 2 (by omega) H _ p _ hp) ?_;simp only[go_sem,simprocAttr];exact⟨_,rfl,eE (.p _) gK⟩
  simp only[go_sem,simprocAttr,dF CY];by_cases DV:k=11
  · rw[kZ (h:=⟨(kS b c3).1,(kS b (kS b c3).2).1,[],2⟩) (c2:=(kS b (kS b c3).2).2) (by unfold gJ;rw[if_neg k6,if_neg k7,if_neg k8,if_neg CY,if_pos DV])]
    simp only;simp only[go_sem,simprocAttr,dT DV];refine U (vG hb H _ p _ hp) ?_;simp only[go_sem,simprocAttr];refine U (vG hb H _ p _ hp) ?_;simp only[go_sem,simprocAttr];refine U (ny hb ⟨by omega,by omega⟩ lJ 2 (by omega) H _ p _ hp) ?_;simp only[go_sem,simprocAttr];exact⟨_,rfl,eE (.p _) gK⟩
  simp only[go_sem,simprocAttr,dF DV];by_cases Gk:k=12
  · rw[kZ (h:=⟨[],[],[],3⟩) (c2:=c3) (by unfold gJ;rw[if_neg k6,if_neg k7,if_neg k8,if_neg CY,if_neg DV,if_pos Gk])]
    simp only;simp only[go_sem,simprocAttr,dT Gk];refine U (ny hb ⟨by omega,by omega⟩ lJ 3 (by omega) H _ p _ hp) ?_;simp only[go_sem,simprocAttr];exact⟨_,rfl,eE (.p _) gK⟩
  simp only[go_sem,simprocAttr,dF Gk];by_cases Iy:k=13
  · rw[kZ (h:=⟨[],[],(dD (na b rec) (1+(aC b 3 c3).1).toNat (aC b 3 c3).2).1,1⟩) (c2:=(dD (na b rec) (1+(aC b 3 c3).1).toNat (aC b 3 c3).2).2) (by unfold gJ;rw[if_neg k6,if_neg k7,if_neg k8,if_neg CY,if_neg DV,if_neg Gk,if_pos Iy])]
    simp only;have h3:=bO (b:=b) (n:=3) (by decide) c3;rcases hm:aC b 3 c3 with⟨m,c4⟩
    rw[hm]at h3;simp only at h3;obtain⟨J,hJ⟩:∃J:Nat,1+m=J:=⟨(1+m).toNat,by omega⟩;have eJ:wr .i64 (1+m)=(J:Int):=by rw[ea (by omega) (by omega),hJ]
    rw[hJ,Int.toNat_natCast];simp only[go_sem,simprocAttr,dT Iy];refine U (dX hb 3 H _ p _ hp) ?_;simp only[go_sem,simprocAttr,hm,eJ];generalize hR:dD (na b rec) J c4=R
    refine⟨Nat×gO×List ar×AV×List AO,[0,1,4,5,6,7],fun x st=>(Lk b H p [0,1] 12 ar.cells (na b rec) R x.1 x.2.1 x.2.2.1 x.2.2.2.1 x.2.2.2.2∧x.2.2.2.2[0]?=some (.var [iV 0,sV [],iV 0,sV [],iV 0, .p .nl, .p .nl])∧x.2.2.2.2[1]?=some (.var [iV k,sV [],iV 0,sV [],iV q, .p .nl,x.2.2.2.1]))∧
      st=⟨[(0, .ptr p 0),(1,iV dep),(4, .ptr H.length 0),(5, .ptr (H.length+1) 0),(6,iV 1),(7,iV x.1)],[],H.set p (jm b x.2.1)++x.2.2.2.2⟩,fun x=>x.1,⟨(J,c4,[], .p .nl,[.var [iV 0,sV [],iV 0,sV [],iV 0, .p .nl, .p .nl], .var [iV k,sV [],iV 0,sV [],iV q, .p .nl, .p .nl]]), ?_⟩, ?_⟩
    · simp only[go_sem,simprocAttr]
      exact⟨by rw[hR];rfl,by rw[hR],by simp;omega, .inl ⟨rfl,rfl⟩,(fun _ _ _ _ e=>by cases e),by simp⟩
    · rintro⟨j,c,acc,a,A⟩ _ ⟨⟨hL,i8,i9⟩,rfl⟩
      simp only at hL i8 i9⊢;have C1:=hL.ln
      cases j with
      |zero=>
       obtain⟨rfl,rfl⟩:=hL.stop;simp only[go_sem,simprocAttr];refine U (ny hb ⟨by omega,by omega⟩ lJ 1 (by omega) H _ p _ hp) ?_;have hz:∀o,(A.set 1 o)[1]?=some o:=fun o=>aR i9
       have i80:∀o,(A.set 1 o)[0]?=A[0]?:=fun o=>by rw[List.getElem?_set_ne (by decide)]
       have qT:∀o o2,((A.set 1 o).set 0 o2)[0]?=some o2:=fun o o2=>aR ((i80 o).trans i8)
       simp only[go_sem,simprocAttr,i9,i80,i8,hz,qT]
       exact⟨_,rfl,eE (.p _) (by rw[aa.cd];exact hL.mI (fun k o hk h=>by rw[List.getElem?_set_ne (by rintro rfl;exact hk (by decide)),List.getElem?_set_ne (by rintro rfl;exact hk (by decide))];exact h) Le)⟩
      |succ j=>
       have d1:decide (0<((j+1:Nat):Int))=true :=by simp <;>omega
       have ej:wr .i64 (((j+1:Nat):Int)-1)=(j:Int):=by rw[ea (by omega) (by omega)];omega
       simp only[go_sem,simprocAttr,d1];refine⟨_,hx hp _ _, ?_⟩;simp only[go_sem,simprocAttr,i9,e1];refine aL _ _ (by simp) (hx hp _ _) ((Ty hb 2 (by decide)).chain hp) ?_;rcases hq1:uN b 2 c with⟨⟨k',n',u',q',fY⟩,c5⟩
       simp only[go_sem,simprocAttr,ae.cells,pO,e1];refine aL _ _ (by simp) (hx hp _ _) (lJ.chain hp) ?_;rcases dC:rec c5 with⟨⟨k2,n2,u2,t2,q2,l2,a2⟩,c6⟩
       simp only[go_sem,simprocAttr,aa.cells,ae.cells,pO];refine⟨by intro r hr;simp at hr;subst hr;rfl, ?_⟩;refine hL.app (bytes:=168) (fun k o h=>ag h _) (by decide) (by omega) ?_;intro id ver A' i1 i2 i3;have j0:=(i3 0 (by decide)).trans i8;have j1:=(i3 1 (by decide)).trans i9;have abd:=aT j1;have hz:∀o,(A'.set 1 o)[1]?=some o:=fun o=>aR j1
       have hqa:na b rec c=(.mk (.mk k' n' u' q' fY) (.mk k2 n2 u2 t2 q2 l2 a2),c6):=by unfold na;simp only[hq1,dC]
       simp only[go_sem,simprocAttr,j1,ej];exact⟨(j,c6,acc++[.mk (.mk k' n' u' q' fY) (.mk k2 n2 u2 t2 q2 l2 a2)], .gs id ver 0 (acc.length+1),A'.set 1 (.var [iV k,sV [],iV 0,sV [],iV q, .p .nl, .gs id ver 0 (acc.length+1)])),⟨⟨hL.next hqa i1 i2 (cD (by decide)) (by simp;omega),aM j0 (by decide),hz _⟩,rfl⟩,by simp only;omega⟩
  simp only[go_sem,simprocAttr,dF Iy];by_cases La:k=14
  · rw[kZ (h:=⟨(jP b [[43],[45],[42],[94],[61],[60],[58,61]] c3).1,[],[],2⟩) (c2:=(jP b [[43],[45],[42],[94],[61],[60],[58,61]] c3).2) (by unfold gJ;rw[if_neg k6,if_neg k7,if_neg k8,if_neg CY,if_neg DV,if_neg Gk,if_neg Iy,if_pos La])]
    simp only;simp only[go_sem,simprocAttr,dT La];refine U (uQ hb (L:=[[43],[45],[42],[94],[61],[60],[58,61]]) (by simp) (k:=2) hp (by rfl)) ?_;simp only[go_sem,simprocAttr];refine U (ny hb ⟨by omega,by omega⟩ lJ 2 (by omega) H _ p _ hp) ?_;simp only[go_sem,simprocAttr];exact⟨_,rfl,eE (.p _) gK⟩
  simp only[go_sem,simprocAttr,dF La];by_cases Pm:k=15
  · rw[kZ (h:=⟨(jP b [[112,114,105,110,116],[101,120,105,116],[115,105,122,101],[114,101,102],[33]] c3).1,[],[],1⟩) (c2:=(jP b [[112,114,105,110,116],[101,120,105,116],[115,105,122,101],[114,101,102],[33]] c3).2) (by unfold gJ;rw[if_neg k6,if_neg k7,if_neg k8,if_neg CY,if_neg DV,if_neg Gk,if_neg Iy,if_neg La,if_pos Pm])]
    simp only;simp only[go_sem,simprocAttr,dT Pm];refine U (uQ hb (L:=[[112,114,105,110,116],[101,120,105,116],[115,105,122,101],[114,101,102],[33]]) (by simp) (k:=2) hp (by rfl)) ?_;simp only[go_sem,simprocAttr];refine U (ny hb ⟨by omega,by omega⟩ lJ 1 (by omega) H _ p _ hp) ?_;simp only[go_sem,simprocAttr];exact⟨_,rfl,eE (.p _) gK⟩
  simp only[go_sem,simprocAttr,dF Pm];rw[kZ (h:=⟨[],[],[],2⟩) (c2:=c3) (by unfold gJ;rw[if_neg k6,if_neg k7,if_neg k8,if_neg CY,if_neg DV,if_neg Gk,if_neg Iy,if_neg La,if_neg Pm])];simp only;refine U (ny hb ⟨by omega,by omega⟩ lJ 2 (by omega) H _ p _ hp) ?_;simp only[go_sem,simprocAttr];exact⟨_,rfl,eE (.p _) gK⟩
theorem Tz:∀d:Nat,d≤50→CF b 21 [iV d] (uO b d) Ae
  |0,_ =>by
   refine ng fun H p c hp=> ?_
   refine call21 (by simp) ?_;simp only[go_sem,simprocAttr,Ny,Tt];refine U (NA hb H _ p _ hp) ?_;rw[uO];rcases hq:sL b c with⟨⟨k',n',u',t',q',fY,bf⟩,c4⟩
   simp only[go_sem,simprocAttr,aa.cells]
   exact⟨_,rfl,aZ (dP (aa.cells (.mk k' n' u' t' q' fY bf)))⟩
  |d+1,h=>Yq hb (dep:=((d+1:Nat):Int)) (by omega) (by
   have :=Tz d (by omega);rwa[show((d+1:Nat):Int)-1=(d:Int)by omega])
end
theorem ID {b:List Int} {i:Nat} {h R:Int} (hr:uP h ((b.take 4000).drop i)=R) (h1:i<b.length) (h2:i<4000):
  uP (jD .and .i64 (wr .i64 (wr .i64 (wr .i64 (h*137)+wr .i64 (b.getD i 0))+11)) 1073741823) ((b.take 4000).drop (i+1))=R:=by
 have hl:i<(b.take 4000).length:=by simp;omega
 rw[List.drop_eq_getElem_cons hl,uP]at hr;rw[List.getD_eq_getElem?_getD,List.getElem?_eq_getElem h1];simpa using hr
section
variable {b:List Int} (hb:b.length<=1048576)
include hb
theorem adk (H:List AO):al Tryz.prog 20 [.p (.l (rL b))] H (fun r H'=>r=.ptr H.length 0/\H'=H++[jm b (AX b)]):=by
 refine call20 (by simp) ?_;have e1:wr .i64 (80080+(b.length:Int))=80080+b.length:=ea (by omega) (by omega);simp only[go_sem,simprocAttr,Tj,aa1,jA,e1];intro _
 refine⟨Nat×Int,[0,2,3,4],fun x st=>(x.1<=b.length/\x.1<=4000/\uP x.2 ((b.take 4000).drop x.1)=(AX b).h)/\
  st=⟨[(0,.p (.l (rL b))),(2,.p .np),(3,iV x.2),(4,iV x.1)],[],H⟩,fun x=>b.length-x.1,⟨(0,80080+(b.length:Int)),?_⟩,?_⟩
 ·simp only[go_sem,simprocAttr]
  exact⟨by omega,rfl⟩
 ·rintro⟨i,h⟩ _ ⟨⟨h1,h2,h3⟩,rfl⟩
  simp only at h1 h2 h3⊢;by_cases d1:i<b.length
  ·by_cases d2:i<4000
   ·have hg:(rL b)[i]?=some [.i .u8 (b.getD i 0)]:=by
     unfold rL;rw[List.getElem?_map,List.getElem?_eq_getElem d1,List.getD_eq_getElem?_getD,List.getElem?_eq_getElem d1];rfl
    have ei:wr .i64 ((i:Int)+1)=((i+1:Nat):Int):=cH _ (by omega);have b1:decide ((i:Int)<(b.length:Int))=true:=by simp;omega
    have b2:decide ((i:Int)<4000)=true:=by simp;omega
    have h4:=ID h3 d1 d2;generalize b.getD i 0=z at hg h4;simp only[go_sem,simprocAttr,jA,b1,b2,hg,ei];intro _;exact⟨(i+1,_),⟨⟨by omega,by omega,h4⟩,rfl⟩,by simp only;omega⟩
   ·have b1:decide ((i:Int)<(b.length:Int))=true:=by simp;omega
    have b2:decide ((i:Int)<4000)=false:=by simp;omega
    rw[show i=4000 by omega,List.drop_of_length_le (by simp <;>omega),uP]at h3;simp only[go_sem,simprocAttr,jA,b1,b2];intro _;rw[h3];rfl
  ·have b1:decide ((i:Int)<(b.length:Int))=false:=by simp;omega
   rw[List.drop_of_length_le (by simp;omega),uP]at h3;simp only[go_sem,simprocAttr,jA,b1];intro _;rw[h3];rfl
end
abbrev yN (t:ae):AV:=.st (t.cells.map .p)
abbrev jQ (t:aa):AV:=.st (t.cells.map .p)
theorem TA (t:ae):t.cells.length=5:=by cases t;rfl
theorem Gn (t:aa):t.cells.length=7:=by cases t;rfl
theorem iO {n:Nat} {H:List AO} {k u q:Int} {nm:List UInt8} {a:AV} {l:List ae} (h:bI n H a (.p (.l (ae.aJ l)))):bI n H (.st [iV k,sV nm,iV u,iV q,a]) (yN (.mk k nm u q l)):=
 fp.st (.pc (.pc (.pc (.pc (.cons h .nil)))))
theorem cL {n:Nat} {H:List AO} {k u q:Int} {nm tx:List UInt8} {a b:AV} {l:List aa} {m:List ar} (h:bI n H a (.p (.l (aa.aJ l)))) (h2:bI n H b (.p (.l (aa.bL m)))):bI n H (.st [iV k,sV nm,iV u,sV tx,iV q,a,b]) (jQ (.mk k nm u tx q l m)):=
 fp.st (.pc (.pc (.pc (.pc (.pc (.cons h (.cons h2 .nil)))))))
section
variable {T:List Tok} {lim e:Nat} (hT:bH T) (aK:T.length<=1073741825)
include hT aK
theorem NB:PF (bG T lim) T e 188 [] (sy (dV T)) bV:=by
 refine dm (dt T lim) fun H p s hp hs=>?_
 refine call188 (by simp) ?_;simp only[go_sem,simprocAttr,KR,SA];refine U (kb.nil hp hs) ?_;unfold dV;simp only[go_sem,simprocAttr,kP hp,bG,Tok.cells];cases h0:decide (s.c=0)
 ·have hc:=of_decide_eq_false h0
  simp only[wX hc,pz hc,Bool.or_self];simp only[go_sem,simprocAttr,h0];exact⟨[],by simp[bG],aZ (bw _)⟩
 have hc:=of_decide_eq_true h0;cases k3:decide ((aD T s).k=3);rotate_left
 ·have e3:bp T 3 s=true:=by unfold bp;rw[h0,k3];rfl
  simp only[e3,Bool.or_true,Bool.true_or,Bool.false_or];simp only[go_sem,simprocAttr,h0,k3];exact⟨[],by simp[bG],aZ (bw _)⟩
 have e3:bp T 3 s=false:=by unfold bp;rw[h0,k3];rfl
 cases k1:decide ((aD T s).k=1);rotate_left
 ·have e1:bp T 1 s=true:=by unfold bp;rw[h0,k1];rfl
  simp only[e1,e3,Bool.or_true,Bool.true_or,Bool.false_or];simp only[go_sem,simprocAttr,h0,k3,k1];exact⟨[],by simp[bG],aZ (bw _)⟩
 have e1:bp T 1 s=false:=by unfold bp;rw[h0,k1];rfl
 cases k4:decide ((aD T s).k=4);rotate_left
 ·have e4:bp T 4 s=true:=by unfold bp;rw[h0,k4];rfl
  simp only[e4,e3,e1,Bool.or_true,Bool.true_or,Bool.false_or];simp only[go_sem,simprocAttr,h0,k3,k1,k4];exact⟨[],by simp[bG],aZ (bw _)⟩
 have e4:bp T 4 s=false:=by unfold bp;rw[h0,k4];rfl
 simp only[e3,e1,e4,Bool.false_or];simp only[go_sem,simprocAttr,h0,k3,k1,k4];refine U ((Bb [95]).nil hp hs) ?_;cases w0:aH T [95] s;rotate_left
 ·simp only[go_sem,simprocAttr,w0,Bool.true_or,Bool.or_true,Bool.false_or]
  exact⟨[],by simp[bG],aZ (bw _)⟩
 simp only[go_sem,simprocAttr,w0,Bool.false_or];refine U ((Bb [116,114,117,101]).nil hp hs) ?_;cases w1:aH T [116,114,117,101] s;rotate_left
 ·simp only[go_sem,simprocAttr,w1,Bool.true_or,Bool.or_true,Bool.false_or]
  exact⟨[],by simp[bG],aZ (bw _)⟩
 simp only[go_sem,simprocAttr,w1,Bool.false_or];refine U ((Bb [102,97,108,115,101]).nil hp hs) ?_;cases w2:aH T [102,97,108,115,101] s;rotate_left
 ·simp only[go_sem,simprocAttr,w2,Bool.true_or,Bool.or_true,Bool.false_or]
  exact⟨[],by simp[bG],aZ (bw _)⟩
 simp only[go_sem,simprocAttr,w2,Bool.false_or];refine U ((Bb [40]).nil hp hs) ?_;simp only[go_sem,simprocAttr,Bool.false_or];exact⟨[],by simp[bG],aZ (bw _)⟩
theorem Yr {pat:PM ae} (hr:PF (bG T lim) T e 169 [] pat yN) (sr:ab T pat):PF (bG T lim) T e 187 [] (kO T T.length pat) yN:=by
 refine dm (dt T lim) fun H p s hp hs=>?_
 refine call187 (by simp) ?_;simp only[go_sem,simprocAttr,KQ,Sz];refine U (kb H _ p s hp hs) ?_;simp only[go_sem,simprocAttr,Tok.cells];refine U (NB hT aK H _ p s hp hs) ?_;cases hg:dV T s
 ·have iN:kO T T.length pat s=(Co,dI T 11 s):=by unfold kO;rw[bE,aU hg];rfl
  rw[iN];simp only[go_sem,simprocAttr,hg];refine U (sE 11 H _ p s hp hs) ?_;simp only[go_sem,simprocAttr];exact⟨_,rfl,iO (by rw[ae.aJ];exact .nl)⟩
 have iN:kO T T.length pat s=ed T T.length (aD T s) pat (aE s):=by unfold kO;rw[bE,aQ hg]
 have bx:=hs.aE hT (uj s hg).2;rw[iN];generalize hx:aD T s=x;obtain⟨tk,tt,tn,tp⟩:=x;simp only[go_sem,simprocAttr,hg,qp hp,qq hp,bG,ws aK hs];have fold:AO.var [yt T,iV (s.i+1:Nat),iV s.nest,iV s.d,iV lim,iV s.c,iV s.ps]=bG T lim (aE s):=rfl;rw[fold];by_cases h0:tk=3
 ·have kg:ed T T.length ⟨tk,tt,tn,tp⟩ pat (aE s)=((ae.mk 2 tt 0 tp []),aE s):=by unfold ed;rw[if_pos h0];rfl
  rw[kg];simp only[go_sem,simprocAttr,dT h0];exact⟨_,rfl,iO (by rw[ae.aJ];exact .nl)⟩
 by_cases h1:tk=4
 ·have kg:ed T T.length ⟨tk,tt,tn,tp⟩ pat (aE s)=((ae.mk 7 tt 0 tp []),aE s):=by unfold ed;rw[if_neg h0,if_pos h1];rfl
  rw[kg];simp only[go_sem,simprocAttr,dF h0,dT h1];exact⟨_,rfl,iO (by rw[ae.aJ];exact .nl)⟩
 by_cases h2:tk=1
 ·have kg:ed T T.length ⟨tk,tt,tn,tp⟩ pat (aE s)=((ae.mk 3 [] tn tp []),aE s):=by unfold ed;rw[if_neg h0,if_neg h1,if_pos h2];rfl
  rw[kg];simp only[go_sem,simprocAttr,dF h0,dF h1,dT h2];exact⟨_,rfl,iO (by rw[ae.aJ];exact .nl)⟩
 by_cases h3:tt=[95]
 ·have kg:ed T T.length ⟨tk,tt,tn,tp⟩ pat (aE s)=((ae.mk 1 [] 0 tp []),aE s):=by unfold ed;rw[if_neg h0,if_neg h1,if_neg h2,if_pos h3];rfl
  rw[kg];simp only[go_sem,simprocAttr,dF h0,dF h1,dF h2,dT h3];exact⟨_,rfl,iO (by rw[ae.aJ];exact .nl)⟩
 by_cases h4:tt=[116,114,117,101]
 ·have kg:ed T T.length ⟨tk,tt,tn,tp⟩ pat (aE s)=((ae.mk 4 [] 1 tp []),aE s):=by unfold ed;rw[if_neg h0,if_neg h1,if_neg h2,if_neg h3,if_pos h4];rfl
  rw[kg];simp only[go_sem,simprocAttr,dF h0,dF h1,dF h2,dF h3,dT h4];exact⟨_,rfl,iO (by rw[ae.aJ];exact .nl)⟩
 by_cases h5:tt=[102,97,108,115,101]
 ·have kg:ed T T.length ⟨tk,tt,tn,tp⟩ pat (aE s)=((ae.mk 4 [] 0 tp []),aE s):=by unfold ed;rw[if_neg h0,if_neg h1,if_neg h2,if_neg h3,if_neg h4,if_pos h5];rfl
  rw[kg];simp only[go_sem,simprocAttr,dF h0,dF h1,dF h2,dF h3,dF h4,dT h5];exact⟨_,rfl,iO (by rw[ae.aJ];exact .nl)⟩
 simp only[go_sem,simprocAttr,dF h0,dF h1,dF h2,dF h3,dF h4,dF h5];refine U (nZ aK [41] H _ p (aE s) hp bx) ?_;unfold di;cases hc:aH T [41] (aE s);rotate_left
 ·have kg:ed T T.length ⟨tk,tt,tn,tp⟩ pat (aE s)=((ae.mk 5 [] 0 tp []),aE (aE s)):=by unfold ed;rw[if_neg h0,if_neg h1,if_neg h2,if_neg h3,if_neg h4,if_neg h5,aQ hc];rfl
  rw[kg];simp only[go_sem,simprocAttr,hc];exact⟨_,rfl,iO (by rw[ae.aJ];exact .nl)⟩
 simp only[go_sem,simprocAttr,hc];refine U (hr H _ p (aE s) hp bx) ?_;have bt:=bx.run sr;rcases hq:pat (aE s)with⟨⟨k,n,u,q,ks⟩,s2⟩
 rw[hq]at bt;rcases hR:many (aH T [44]) (bM pat) T.length s2 with⟨Rl,Rs⟩
 have kg:ed T T.length ⟨tk,tt,tn,tp⟩ pat (aE s)=(if Rl=[]then .mk k n u q ks else(ae.mk 6 [] 0 tp ((.mk k n u q ks)::Rl)),aS T [41] Rs):=by unfold ed;rw[if_neg h0,if_neg h1,if_neg h2,if_neg h3,if_neg h4,if_neg h5,aU hc,aN,hq,aN,hR];rfl
 rw[kg];clear kg iN;simp only[go_sem,simprocAttr,ae.cells,Nat.add_zero]
 refine⟨Nat×PS×List ae×AV×List AO,[0,2,4,5],fun x st=>(Lp (bG T lim) T e H p [0,2] 5 ae.cells (aH T [44]) (bM pat) ((.mk k n u q ks)::Rl) Rs x.1 x.2.1 x.2.2.1 x.2.2.2.1 x.2.2.2.2/\x.2.2.2.2[0]?=some (.var [iV 0,sV [],iV 0,iV 0,.p .nl])/\x.2.2.2.2[2]?=some (.var [iV 0,sV [],iV 0,iV tp,.p .nl]))/\
   st=⟨[(0,.ptr p 0),(2,.ptr H.length 0),(4,.ptr (H.length+2) 0),(5,x.2.2.2.1)],[],H.set p (bG T lim x.2.1)++x.2.2.2.2⟩,fun x=>T.length-x.2.1.i,⟨(T.length,s2,[.mk k n u q ks],.gs (H.length+3) 0 0 1,[.var [iV 0,sV [],iV 0,iV 0,.p .nl],.var [iV tk,sV tt,iV tn,iV tp],.var [iV 0,sV [],iV 0,iV tp,.p .nl],.rows 5 0 [[iV k,sV n,iV u,iV q,.p (.l (ae.aJ ks))]]]),?_⟩,?_⟩
 ·simp only[go_sem,simprocAttr]
  exact Lp.nx bt hR (by simp) rfl (by decide)
 ·rintro⟨j,s',acc,a,A⟩ _ ⟨⟨hL,i8,i9⟩,rfl⟩
  simp only at hL i8 i9⊢;simp only[go_sem,simprocAttr];refine U (nZ aK [44] H _ p s' hp hL.ok) ?_;unfold di;cases hg:aH T [44] s'
  ·obtain⟨rfl,rfl⟩:=hL.stop hg
   have hz:∀o,(A.set 0 o)[0]?=some o:=fun o=>aR i8
   have sc:∀o,(A.set 2 o)[2]?=some o:=fun o=>aR i9
   simp only[go_sem,simprocAttr,hg];refine U (gY aK [41] H _ p s' hp hL.ok) ?_;simp only[go_sem,simprocAttr]
   obtain⟨id,ver,rfl,hid⟩:∃id ver,a=.gs id ver 0 (Rl.length+1)/\(H.set p (bG T lim (aS T [41] s'))++A)[id]?=some (.rows 5 ver ((((.mk k n u q ks)::Rl:List ae)).map fun t=>(ae.cells t).map .p)):=by
    rcases hL.own with⟨_,h⟩|⟨id,ver,rfl,h⟩
    ·simp at h
    ·exact⟨id,ver,by simp,by rw[rM (hL.ids _ _ _ _ rfl).1]at h⊢;exact h⟩
   by_cases IE:Rl=[]
   ·subst IE
    rw[if_pos rfl];simp only[go_sem,simprocAttr,hid,i8,hz,ae.cells];intro _;exact⟨_,rfl,aZ (dP (ae.cells (.mk k n u q ks)))⟩
   ·have d1:decide (((Rl.length+1:Nat):Int)=1)=false:=by
     have:=List.length_pos_iff.2 IE;simp;omega
    rw[if_neg IE];have TB:∀o,(A.set 2 o)[0]?=some _:=fun o=>aM i8 (by decide)
    have TC:∀o o',((A.set 2 o).set 0 o')[0]?=some o':=fun o o'=>aR (TB o)
    simp only[go_sem,simprocAttr,d1,i9,i8,sc,TB,TC,List.set_set];intro _;exact⟨_,rfl,iO (by rw[ae.bD];exact hL.mI (fun k o hk h=>aM (aM h (by rintro rfl;exact hk (by decide))) (by rintro rfl;exact hk (by decide))) TA)⟩
  ·obtain⟨j,rfl⟩:=hL.succ (aw T _) hg
   have dB:=hL.ok.aE hT (cB hg).2;have eA:=dB.run sr;have cG:=(gR.aE hT sr hL.ok.1 (cB hg).2).1;simp only[go_sem,simprocAttr,hg];refine U (hr H _ p (aE s') hp dB) ?_;rcases fD:pat (aE s')with⟨⟨k,n,u,q,ks⟩,s3⟩
   rw[fD]at eA cG;simp only[go_sem,simprocAttr,ae.cells,pO];refine⟨by intro r hr;simp at hr;subst hr;rfl,?_⟩;refine hL.app (fun k o h=>ag h _) aK (by decide) ?_;intro id ver A' k1 k2 k3;have j0:=(k3 0 (by decide)).trans i8;have j2:=(k3 2 (by decide)).trans i9;have gy:=aT j2;simp only[go_sem,simprocAttr];exact⟨(j,s3,acc++[.mk k n u q ks],.gs id ver 0 (acc.length+1),A'),⟨⟨hL.next (aw T _) hg fD eA cG k1 k2 (fun _ _ _ h=>h) (by simp;omega),j0,j2⟩,rfl⟩,by have h1:s'.i<s3.i:=cG;have:=hL.ok.1;simp only;omega⟩
end
section
variable {T:List Tok} {lim e:Nat} (hT:bH T) (aK:T.length<=1073741825)
include hT aK
theorem adl (hl:lim<=1099511627776) (he:e<=lim) {pat:PM ae} (hr:e<lim->PF (bG T lim) T (e+1) 169 [] pat yN) (sr:ab T pat):PF (bG T lim) T e 169 [] (Cp T T.length lim pat) yN:=by
 have sA:=qh (N:=T.length) hT sr;refine dm (dt T lim) fun H p s hp hs=>?_
 obtain⟨o1,o2,o3⟩:=Ad (lim:=lim) hT aK hs;have hi:=hs.1;have hn:=hs.2;refine call169 (by simp) ?_;simp only[go_sem,simprocAttr,KL,Su];refine U (F7 hl he H _ p s hp hs) ?_;unfold Cp qf;cases hc:decide ((cz T lim s).c=0)
 ·rw[if_neg (of_decide_eq_false hc)]
  simp only[go_sem,simprocAttr,hc];refine U (sF hl H _ p (cz T lim s) hp (by omega) (by omega) (by omega)) ?_;simp only[go_sem,simprocAttr];exact⟨_,rfl,iO (by rw[ae.aJ];exact .nl)⟩
 ·obtain⟨bx,cK⟩:=o3 (of_decide_eq_true hc)
  have hr:=hr (by omega);have hA:=Yr hT aK hr sr;rw[if_pos (of_decide_eq_true hc)];simp only[go_sem,simprocAttr,hc];refine U (kb H _ p _ hp bx) ?_;rw[bE,aN];simp only[go_sem,simprocAttr,Tok.cells];generalize hx:aD T (cz T lim s)=x;obtain⟨tk,tt,tn,tp⟩:=x;simp only;refine U (hA H _ p _ hp bx) ?_;have bt:=bx.run sA;have wS:=sA _ bx.1;rcases hq:kO T T.length pat (cz T lim s)with⟨⟨k,n,u,q,ks⟩,s2⟩
  rw[hq]at bt wS;have bd:s2.nest=s.nest+1:=wS.2.2.2.trans o2;simp only[go_sem,simprocAttr,ae.cells];by_cases h4:tk=4
  ·rw[if_pos h4]
   simp only[go_sem,simprocAttr,dT h4];refine U (NB hT aK H _ p s2 hp bt) ?_;cases hg:dV T s2
   ·rw[jj hg]
    simp only[go_sem,simprocAttr,hg];refine U (sF hl H _ p s2 hp bt.1 (by omega) (by omega)) ?_;simp only[go_sem,simprocAttr];exact⟨_,rfl,aZ (dP (ae.cells (.mk k n u q ks)))⟩
   ·rw[fE hg,aN]
    simp only[go_sem,simprocAttr,hg];refine U (hA H _ p s2 hp bt) ?_;have eA:=bt.run sA;have Tx:=sA _ bt.1;rcases dC:kO T T.length pat s2 with⟨⟨k',n',u',q',fY⟩,s3⟩
    rw[dC]at eA Tx;have hn3:s3.nest=s.nest+1:=Tx.2.2.2.trans bd;simp only[go_sem,simprocAttr,ae.cells];refine U (sF hl H _ p s3 hp eA.1 (by omega) (by omega)) ?_;simp only[go_sem,simprocAttr,Nat.add_zero];exact⟨_,rfl,iO (cS (n:=H.length) (ys:=[ae.cells (.mk k' n' u' q' fY)]) (by omega) (by rw[lq];rfl) (by intro y hy;simp at hy;subst hy;rfl))⟩
  ·rw[if_neg h4]
   simp only[go_sem,simprocAttr,dF h4];refine U (sF hl H _ p s2 hp bt.1 (by omega) (by omega)) ?_;simp only[go_sem,simprocAttr];exact⟨_,rfl,aZ (dP (ae.cells (.mk k n u q ks)))⟩
theorem TD (hl:lim<=1099511627776):∀k e,e+k=lim+1->0<k->PF (bG T lim) T e 169 [] (AP T T.length lim k) yN
 |0,e,_,h=>absurd h (by omega)
 |k+1,e,h,_=>adl hT aK hl (by omega) (fun aF=>TD hl k (e+1) (by omega) (by omega)) (so hT lim k)
theorem Af:PF (bG T lim) T e 190 [] (sy (dW T)) bV:=by
 refine dm (dt T lim) fun H p s hp hs=>?_
 refine call190 (by simp) ?_;simp only[go_sem,simprocAttr,KT,SC];refine U (kb.nil hp hs) ?_;unfold dW;simp only[go_sem,simprocAttr,kP hp,bG,Tok.cells];cases h0:decide (s.c=0)
 ·have hc:=of_decide_eq_false h0
  simp only[wX hc,pz hc,Bool.or_self];simp only[go_sem,simprocAttr,h0];exact⟨[],by simp[bG],aZ (bw _)⟩
 have hc:=of_decide_eq_true h0;cases k1:decide ((aD T s).k=1);rotate_left
 ·have e1:bp T 1 s=true:=by unfold bp;rw[h0,k1];rfl
  simp only[e1,Bool.or_true,Bool.true_or,Bool.false_or];simp only[go_sem,simprocAttr,h0,k1];exact⟨[],by simp[bG],aZ (bw _)⟩
 have e1:bp T 1 s=false:=by unfold bp;rw[h0,k1];rfl
 cases k2:decide ((aD T s).k=2);rotate_left
 ·have e2:bp T 2 s=true:=by unfold bp;rw[h0,k2];rfl
  simp only[e2,e1,Bool.or_true,Bool.true_or,Bool.false_or];simp only[go_sem,simprocAttr,h0,k1,k2];exact⟨[],by simp[bG],aZ (bw _)⟩
 have e2:bp T 2 s=false:=by unfold bp;rw[h0,k2];rfl
 cases k3:decide ((aD T s).k=3);rotate_left
 ·have e3:bp T 3 s=true:=by unfold bp;rw[h0,k3];rfl
  simp only[e3,e1,e2,Bool.or_true,Bool.true_or,Bool.false_or];simp only[go_sem,simprocAttr,h0,k1,k2,k3];exact⟨[],by simp[bG],aZ (bw _)⟩
 have e3:bp T 3 s=false:=by unfold bp;rw[h0,k3];rfl
 cases k4:decide ((aD T s).k=4);rotate_left
 ·have e4:bp T 4 s=true:=by unfold bp;rw[h0,k4];rfl
  simp only[e4,e1,e2,e3,Bool.or_true,Bool.true_or,Bool.false_or];simp only[go_sem,simprocAttr,h0,k1,k2,k3,k4];exact⟨[],by simp[bG],aZ (bw _)⟩
 have e4:bp T 4 s=false:=by unfold bp;rw[h0,k4];rfl
 simp only[e1,e2,e3,e4,Bool.false_or];simp only[go_sem,simprocAttr,h0,k1,k2,k3,k4];refine U ((Bb [116,114,117,101]).nil hp hs) ?_;cases w0:aH T [116,114,117,101] s;rotate_left
 ·simp only[go_sem,simprocAttr,w0,Bool.true_or,Bool.or_true,Bool.false_or]
  exact⟨[],by simp[bG],aZ (bw _)⟩
 simp only[go_sem,simprocAttr,w0,Bool.false_or];refine U ((Bb [102,97,108,115,101]).nil hp hs) ?_;cases w1:aH T [102,97,108,115,101] s;rotate_left
 ·simp only[go_sem,simprocAttr,w1,Bool.true_or,Bool.or_true,Bool.false_or]
  exact⟨[],by simp[bG],aZ (bw _)⟩
 simp only[go_sem,simprocAttr,w1,Bool.false_or];refine U ((Bb [114,101,97,100]).nil hp hs) ?_;cases w2:aH T [114,101,97,100] s;rotate_left
 ·simp only[go_sem,simprocAttr,w2,Bool.true_or,Bool.or_true,Bool.false_or]
  exact⟨[],by simp[bG],aZ (bw _)⟩
 simp only[go_sem,simprocAttr,w2,Bool.false_or];refine U ((Bb [40]).nil hp hs) ?_;simp only[go_sem,simprocAttr,Bool.false_or];exact⟨[],by simp[bG],aZ (bw _)⟩
theorem NC {ex:PM aa} (hr:PF (bG T lim) T e 34 [] ex jQ) (sr:ab T ex):PF (bG T lim) T e 191 [] (dx T T.length ex) jQ:=by
 refine dm (dt T lim) fun H p s hp hs=>?_
 refine call191 (by simp) ?_;simp only[go_sem,simprocAttr,KU,SE];refine U (kb H _ p s hp hs) ?_;simp only[go_sem,simprocAttr,Tok.cells];refine U (Af hT aK H _ p s hp hs) ?_;cases hg:dW T s
 ·have iN:dx T T.length ex s=(AN,dI T 11 s):=by unfold dx;rw[bE,aU hg];rfl
  rw[iN];simp only[go_sem,simprocAttr,hg];refine U (sE 11 H _ p s hp hs) ?_;simp only[go_sem,simprocAttr];exact⟨_,rfl,cL (by rw[aa.aJ];exact .nl) (by rw[aa.bL];exact .nl)⟩
 have iN:dx T T.length ex s=fe T T.length (aD T s) ex (aE s):=by unfold dx;rw[bE,aQ hg]
 have bx:=hs.aE hT (only_atNx s hg).2;rw[iN];generalize hx:aD T s=x;obtain⟨tk,tt,tn,tp⟩:=x;simp only[go_sem,simprocAttr,hg,qp hp,qq hp,bG,ws aK hs];have fold:AO.var [yt T,iV (s.i+1:Nat),iV s.nest,iV s.d,iV lim,iV s.c,iV s.ps]=bG T lim (aE s):=rfl;rw[fold];by_cases h0:tk=1
 ·have kg:fe T T.length ⟨tk,tt,tn,tp⟩ ex (aE s)=((aa.mk 1 [] tn [] tp [] []),aE s):=by unfold fe;rw[if_pos h0];rfl
  rw[kg];simp only[go_sem,simprocAttr,dT h0];exact⟨_,rfl,cL (by rw[aa.aJ];exact .nl) (by rw[aa.bL];exact .nl)⟩
 by_cases h1:tk=2
 ·have kg:fe T T.length ⟨tk,tt,tn,tp⟩ ex (aE s)=((aa.mk 2 [] 0 tt tp [] []),aE s):=by unfold fe;rw[if_neg h0,if_pos h1];rfl
  rw[kg];simp only[go_sem,simprocAttr,dF h0,dT h1];exact⟨_,rfl,cL (by rw[aa.aJ];exact .nl) (by rw[aa.bL];exact .nl)⟩
 by_cases h2:tk=3
 ·have kg:fe T T.length ⟨tk,tt,tn,tp⟩ ex (aE s)=((aa.mk 5 tt 0 [] tp [] []),aE s):=by unfold fe;rw[if_neg h0,if_neg h1,if_pos h2];rfl
  rw[kg];simp only[go_sem,simprocAttr,dF h0,dF h1,dT h2];exact⟨_,rfl,cL (by rw[aa.aJ];exact .nl) (by rw[aa.bL];exact .nl)⟩
 by_cases h3:tk=4
 ·have kg:fe T T.length ⟨tk,tt,tn,tp⟩ ex (aE s)=((aa.mk 6 tt 0 [] tp [] []),aE s):=by unfold fe;rw[if_neg h0,if_neg h1,if_neg h2,if_pos h3];rfl
  rw[kg];simp only[go_sem,simprocAttr,dF h0,dF h1,dF h2,dT h3];exact⟨_,rfl,cL (by rw[aa.aJ];exact .nl) (by rw[aa.bL];exact .nl)⟩
 by_cases h4:tt=[114,101,97,100]
 ·have kg:fe T T.length ⟨tk,tt,tn,tp⟩ ex (aE s)=((aa.mk 15 tt 0 [] tp [] []),aE s):=by unfold fe;rw[if_neg h0,if_neg h1,if_neg h2,if_neg h3,if_pos h4];rfl
  rw[kg];simp only[go_sem,simprocAttr,dF h0,dF h1,dF h2,dF h3,dT h4];exact⟨_,rfl,cL (by rw[aa.aJ];exact .nl) (by rw[aa.bL];exact .nl)⟩
 by_cases h5:tt=[116,114,117,101]
 ·have kg:fe T T.length ⟨tk,tt,tn,tp⟩ ex (aE s)=((aa.mk 3 [] 1 [] tp [] []),aE s):=by unfold fe;rw[if_neg h0,if_neg h1,if_neg h2,if_neg h3,if_neg h4,if_pos h5];rfl
  rw[kg];simp only[go_sem,simprocAttr,dF h0,dF h1,dF h2,dF h3,dF h4,dT h5];exact⟨_,rfl,cL (by rw[aa.aJ];exact .nl) (by rw[aa.bL];exact .nl)⟩
 by_cases h6:tt=[102,97,108,115,101]
 ·have kg:fe T T.length ⟨tk,tt,tn,tp⟩ ex (aE s)=((aa.mk 3 [] 0 [] tp [] []),aE s):=by unfold fe;rw[if_neg h0,if_neg h1,if_neg h2,if_neg h3,if_neg h4,if_neg h5,if_pos h6];rfl
  rw[kg];simp only[go_sem,simprocAttr,dF h0,dF h1,dF h2,dF h3,dF h4,dF h5,dT h6];exact⟨_,rfl,cL (by rw[aa.aJ];exact .nl) (by rw[aa.bL];exact .nl)⟩
 simp only[go_sem,simprocAttr,dF h0,dF h1,dF h2,dF h3,dF h4,dF h5,dF h6];refine U (nZ aK [41] H _ p (aE s) hp bx) ?_;unfold di;cases hc:aH T [41] (aE s);rotate_left
 ·have kg:fe T T.length ⟨tk,tt,tn,tp⟩ ex (aE s)=((aa.mk 4 [] 0 [] tp [] []),aE (aE s)):=by unfold fe;rw[if_neg h0,if_neg h1,if_neg h2,if_neg h3,if_neg h4,if_neg h5,if_neg h6,aQ hc];rfl
  rw[kg];simp only[go_sem,simprocAttr,hc];exact⟨_,rfl,cL (by rw[aa.aJ];exact .nl) (by rw[aa.bL];exact .nl)⟩
 simp only[go_sem,simprocAttr,hc];refine U (hr H _ p (aE s) hp bx) ?_;have bt:=bx.run sr;rcases hq:ex (aE s)with⟨⟨k,n,u,t,q,ks,ms⟩,s2⟩
 rw[hq]at bt;rcases hR:many (aH T [44]) (bM ex) T.length s2 with⟨Rl,Rs⟩
 have kg:fe T T.length ⟨tk,tt,tn,tp⟩ ex (aE s)=(if Rl=[]then .mk k n u t q ks ms else(aa.mk 7 [] 0 [] tp ((.mk k n u t q ks ms)::Rl) []),aS T [41] Rs):=by unfold fe;rw[if_neg h0,if_neg h1,if_neg h2,if_neg h3,if_neg h4,if_neg h5,if_neg h6,aU hc,aN,hq,aN,hR];rfl
 rw[kg];clear kg iN;simp only[go_sem,simprocAttr,aa.cells,Nat.add_zero]
 refine⟨Nat×PS×List aa×AV×List AO,[0,2,4,5],fun x st=>(Lp (bG T lim) T e H p [0,2] 7 aa.cells (aH T [44]) (bM ex) ((.mk k n u t q ks ms)::Rl) Rs x.1 x.2.1 x.2.2.1 x.2.2.2.1 x.2.2.2.2/\x.2.2.2.2[0]?=some (.var [iV 0,sV [],iV 0,sV [],iV 0,.p .nl,.p .nl])/\x.2.2.2.2[2]?=some (.var [iV 0,sV [],iV 0,sV [],iV tp,.p .nl,.p .nl]))/\
   st=⟨[(0,.ptr p 0),(2,.ptr H.length 0),(4,.ptr (H.length+2) 0),(5,x.2.2.2.1)],[],H.set p (bG T lim x.2.1)++x.2.2.2.2⟩,fun x=>T.length-x.2.1.i,⟨(T.length,s2,[.mk k n u t q ks ms],.gs (H.length+3) 0 0 1,[.var [iV 0,sV [],iV 0,sV [],iV 0,.p .nl,.p .nl],.var [iV tk,sV tt,iV tn,iV tp],.var [iV 0,sV [],iV 0,sV [],iV tp,.p .nl,.p .nl],.rows 7 0 [[iV k,sV n,iV u,sV t,iV q,.p (.l (aa.aJ ks)),.p (.l (aa.bL ms))]]]),?_⟩,?_⟩
 ·simp only[go_sem,simprocAttr]
  exact Lp.nx bt hR (by simp) rfl (by decide)
 ·rintro⟨j,s',acc,a,A⟩ _ ⟨⟨hL,i8,i9⟩,rfl⟩
  simp only at hL i8 i9⊢;simp only[go_sem,simprocAttr];refine U (nZ aK [44] H _ p s' hp hL.ok) ?_;unfold di;cases hg:aH T [44] s'
  ·obtain⟨rfl,rfl⟩:=hL.stop hg
   have hz:∀o,(A.set 0 o)[0]?=some o:=fun o=>aR i8
   have sc:∀o,(A.set 2 o)[2]?=some o:=fun o=>aR i9
   simp only[go_sem,simprocAttr,hg];refine U (gY aK [41] H _ p s' hp hL.ok) ?_;simp only[go_sem,simprocAttr]
   obtain⟨id,ver,rfl,hid⟩:∃id ver,a=.gs id ver 0 (Rl.length+1)/\(H.set p (bG T lim (aS T [41] s'))++A)[id]?=some (.rows 7 ver ((((.mk k n u t q ks ms)::Rl:List aa)).map fun t=>(aa.cells t).map .p)):=by
    rcases hL.own with⟨_,h⟩|⟨id,ver,rfl,h⟩
    ·simp at h
    ·exact⟨id,ver,by simp,by rw[rM (hL.ids _ _ _ _ rfl).1]at h⊢;exact h⟩
   by_cases IE:Rl=[]
   ·subst IE
    rw[if_pos rfl];simp only[go_sem,simprocAttr,hid,i8,hz,aa.cells];intro _;exact⟨_,rfl,aZ (dP (aa.cells (.mk k n u t q ks ms)))⟩
   ·have d1:decide (((Rl.length+1:Nat):Int)=1)=false:=by
     have:=List.length_pos_iff.2 IE;simp;omega
    rw[if_neg IE];have TB:∀o,(A.set 2 o)[0]?=some _:=fun o=>aM i8 (by decide)
    have TC:∀o o',((A.set 2 o).set 0 o')[0]?=some o':=fun o o'=>aR (TB o)
    simp only[go_sem,simprocAttr,d1,i9,i8,sc,TB,TC,List.set_set];intro _;exact⟨_,rfl,cL (by rw[aa.bD];exact hL.mI (fun k o hk h=>aM (aM h (by rintro rfl;exact hk (by decide))) (by rintro rfl;exact hk (by decide))) Gn) .nl⟩
  ·obtain⟨j,rfl⟩:=hL.succ (aw T _) hg
   have dB:=hL.ok.aE hT (cB hg).2;have eA:=dB.run sr;have cG:=(gR.aE hT sr hL.ok.1 (cB hg).2).1;simp only[go_sem,simprocAttr,hg];refine U (hr H _ p (aE s') hp dB) ?_;rcases fD:ex (aE s')with⟨⟨k,n,u,t,q,ks,ms⟩,s3⟩
   rw[fD]at eA cG;simp only[go_sem,simprocAttr,aa.cells,pO];refine⟨by intro r hr;simp at hr;subst hr;rfl,?_⟩;refine hL.app (fun k o h=>ag h _) aK (by decide) ?_;intro id ver A' k1 k2 k3;have j0:=(k3 0 (by decide)).trans i8;have j2:=(k3 2 (by decide)).trans i9;have gy:=aT j2;simp only[go_sem,simprocAttr];exact⟨(j,s3,acc++[.mk k n u t q ks ms],.gs id ver 0 (acc.length+1),A'),⟨⟨hL.next (aw T _) hg fD eA cG k1 k2 (fun _ _ _ h=>h) (by simp;omega),j0,j2⟩,rfl⟩,by have h1:s'.i<s3.i:=cG;have:=hL.ok.1;simp only;omega⟩
theorem TG (s:List UInt8) (H:List AO):al Tryz.prog 74 [sV s] H (aP (bV (decide (s=[112,114,105,110,116])||decide (s=[101,120,105,116])||decide (s=[115,105,122,101])||decide (s=[114,101,102])||decide (s=[33]))) H):=by
 refine call74 (by simp) ?_;simp only[go_sem,simprocAttr,SH,aaT];cases h1:decide (s=[112,114,105,110,116]);rotate_left
 ·simp only[go_sem,simprocAttr,h1,Bool.true_or]
  exact⟨rfl,rfl⟩
 cases h2:decide (s=[101,120,105,116]);rotate_left
 ·simp only[go_sem,simprocAttr,h1,h2,Bool.true_or,Bool.false_or]
  exact⟨rfl,rfl⟩
 cases h3:decide (s=[115,105,122,101]);rotate_left
 ·simp only[go_sem,simprocAttr,h1,h2,h3,Bool.true_or,Bool.false_or]
  exact⟨rfl,rfl⟩
 cases h4:decide (s=[114,101,102]);rotate_left
 ·simp only[go_sem,simprocAttr,h1,h2,h3,h4,Bool.true_or,Bool.false_or]
  exact⟨rfl,rfl⟩
 simp only[go_sem,simprocAttr,h1,h2,h3,h4,Bool.false_or];exact⟨rfl,rfl⟩
theorem TH {s:PS} (hc:s.c=0):iv T s=((decide ((aD T s).k=6)||decide ((aD T s).k=7))&&(decide ((aD T s).t=[112,114,105,110,116])||decide ((aD T s).t=[101,120,105,116])||decide ((aD T s).t=[115,105,122,101])||decide ((aD T s).t=[114,101,102])||decide ((aD T s).t=[33]))):=by
 unfold iv aH;rw[dT hc,Bool.true_and];cases(decide ((aD T s).k=6)||decide ((aD T s).k=7))
 ·simp
 ·simp
theorem adm {ex:PM aa} (hr:PF (bG T lim) T e 34 [] ex jQ) (sr:ab T ex):PF (bG T lim) T e 189 [] (wv T T.length ex) jQ:=by
 have hA:=NC hT aK hr sr;have sA:=j6 (N:=T.length) hT sr;refine dm (dt T lim) fun H p s hp hs=>?_
 refine call189 (by simp) ?_;simp only[go_sem,simprocAttr,KS,SB];refine U (kb H _ p s hp hs) ?_
 have rest:iv T s=false->wv T T.length ex s=(if(aD T s).k=4 then dU (dW T) (az (dx T T.length ex) fun a=>aO ((dx T T.length ex s).1.Xv [a])) (aO (dx T T.length ex s).1)else aO (dx T T.length ex s).1) (dx T T.length ex s).2:=fun h=>by
  unfold wv;rw[bE,aU h,aN]
 have yes:iv T s=true->wv T T.length ex s=(node1 15 (aD T s).t (aD T s).p (dx T T.length ex (aE s)).1,(dx T T.length ex (aE s)).2):=fun h=>by
  unfold wv;rw[bE,aQ h];rfl
 have tB:=fun hc:s.c=0=>TH hT aK hc
 have hpc:=fun hc:s.c≠0=>show iv T s=false by unfold iv;rw[pz hc,pz hc,pz hc,pz hc,pz hc];rfl
 have h8:iv T s=true->(aD T s).k≠8:=fun h=>(qg s h).2
 simp only[go_sem,simprocAttr,qp hp,bG,Tok.cells];generalize hx:aD T s=x at rest yes tB h8⊢;obtain⟨tk,tt,tn,tp⟩:=x;simp only at rest yes tB h8⊢;cases h0:decide (s.c=0)
 ·have hf:=hpc (of_decide_eq_false h0)
  simp only[go_sem,simprocAttr,h0];refine U (hA H _ p s hp hs) ?_;have bt:=hs.run sA;rw[rest hf];clear rest yes;rcases hq:dx T T.length ex s with⟨⟨k,n,u,t,q,ks,ms⟩,s2⟩
  rw[hq]at bt;simp only[go_sem,simprocAttr,aa.cells];by_cases h4:tk=4
  ·rw[if_pos h4]
   simp only[go_sem,simprocAttr,dT h4];refine U (Af hT aK H _ p s2 hp bt) ?_;cases hg:dW T s2
   ·rw[jj hg]
    simp only[go_sem,simprocAttr,hg];exact⟨_,rfl,aZ (dP (aa.cells (.mk k n u t q ks ms)))⟩
   ·rw[fE hg,aN]
    simp only[go_sem,simprocAttr,hg];refine U (hA H _ p s2 hp bt) ?_;rcases dC:dx T T.length ex s2 with⟨⟨k',n',u',t',q',fY,nh⟩,s3⟩
    simp only[go_sem,simprocAttr,aa.cells,Nat.add_zero];exact⟨_,rfl,cL (cS (n:=H.length) (ys:=[aa.cells (.mk k' n' u' t' q' fY nh)]) (by omega) (by rw[lq];rfl) (by intro y hy;simp at hy;subst hy;rfl)) (.p _)⟩
  ·rw[if_neg h4]
   simp only[go_sem,simprocAttr,dF h4];exact⟨_,rfl,aZ (dP (aa.cells (.mk k n u t q ks ms)))⟩
 ·have tB:=tB (of_decide_eq_true h0)
  cases TI:(decide (tk=6)||decide (tk=7))
  ·have hf:iv T s=false:=by rw[tB,TI];rfl
   have h6:decide (tk=6)=false:=by cases h:decide (tk=6)<;>simp[h]at TI⊢
   have h7:decide (tk=7)=false:=by cases h:decide (tk=7)<;>simp[h]at TI⊢
   simp only[go_sem,simprocAttr,h0,h6,h7];refine U (hA H _ p s hp hs) ?_;have bt:=hs.run sA;rw[rest hf];clear rest yes;rcases hq:dx T T.length ex s with⟨⟨k,n,u,t,q,ks,ms⟩,s2⟩
   rw[hq]at bt;simp only[go_sem,simprocAttr,aa.cells];by_cases h4:tk=4
   ·rw[if_pos h4]
    simp only[go_sem,simprocAttr,dT h4];refine U (Af hT aK H _ p s2 hp bt) ?_;cases hg:dW T s2
    ·rw[jj hg]
     simp only[go_sem,simprocAttr,hg];exact⟨_,rfl,aZ (dP (aa.cells (.mk k n u t q ks ms)))⟩
    ·rw[fE hg,aN]
     simp only[go_sem,simprocAttr,hg];refine U (hA H _ p s2 hp bt) ?_;rcases dC:dx T T.length ex s2 with⟨⟨k',n',u',t',q',fY,nh⟩,s3⟩
     simp only[go_sem,simprocAttr,aa.cells,Nat.add_zero];exact⟨_,rfl,cL (cS (n:=H.length) (ys:=[aa.cells (.mk k' n' u' t' q' fY nh)]) (by omega) (by rw[lq];rfl) (by intro y hy;simp at hy;subst hy;rfl)) (.p _)⟩
   ·rw[if_neg h4]
    simp only[go_sem,simprocAttr,dF h4];exact⟨_,rfl,aZ (dP (aa.cells (.mk k n u t q ks ms)))⟩
  ·rw[TI,Bool.true_and]at tB
   cases h6:decide (tk=6)
   ·have h7:decide (tk=7)=true:=by simpa[h6]using TI
    simp only[go_sem,simprocAttr,h0,h6,h7];refine U (TG hT aK tt _) ?_;rw[<-tB];cases hf:iv T s
    ·simp only[go_sem,simprocAttr,hf]
     refine U (hA H _ p s hp hs) ?_;have bt:=hs.run sA;rw[rest hf];clear rest yes;rcases hq:dx T T.length ex s with⟨⟨k,n,u,t,q,ks,ms⟩,s2⟩
     rw[hq]at bt;simp only[go_sem,simprocAttr,aa.cells];by_cases h4:tk=4
     ·rw[if_pos h4]
      simp only[go_sem,simprocAttr,dT h4];refine U (Af hT aK H _ p s2 hp bt) ?_;cases hg:dW T s2
      ·rw[jj hg]
       simp only[go_sem,simprocAttr,hg];exact⟨_,rfl,aZ (dP (aa.cells (.mk k n u t q ks ms)))⟩
      ·rw[fE hg,aN]
       simp only[go_sem,simprocAttr,hg];refine U (hA H _ p s2 hp bt) ?_;rcases dC:dx T T.length ex s2 with⟨⟨k',n',u',t',q',fY,nh⟩,s3⟩
       simp only[go_sem,simprocAttr,aa.cells,Nat.add_zero];exact⟨_,rfl,cL (cS (n:=H.length) (ys:=[aa.cells (.mk k' n' u' t' q' fY nh)]) (by omega) (by rw[lq];rfl) (by intro y hy;simp at hy;subst hy;rfl)) (.p _)⟩
     ·rw[if_neg h4]
      simp only[go_sem,simprocAttr,dF h4];exact⟨_,rfl,aZ (dP (aa.cells (.mk k n u t q ks ms)))⟩
    ·have dB:=hs.aE hT (by rw[hx];exact h8 hf)
     have fold:AO.var [yt T,iV (s.i+1:Nat),iV s.nest,iV s.d,iV lim,iV s.c,iV s.ps]=bG T lim (aE s):=rfl;rw[yes hf];clear rest yes;simp only[go_sem,simprocAttr,hf,qp hp,qq hp,ws aK hs];rw[fold];refine⟨_,Qp.hx hp _ _,?_⟩;simp only[go_sem,simprocAttr];refine aL _ _ (by simp) (Qp.hx hp _ _) (hA.chain hp dB) ?_;rcases hq:dx T T.length ex (aE s)with⟨⟨k,n,u,t,q,ks,ms⟩,s2⟩
     simp only[go_sem,simprocAttr,aa.cells,Nat.add_zero];exact⟨_,rfl,cL (cS (n:=H.length) (ys:=[aa.cells (.mk k n u t q ks ms)]) (by omega) (by rw[lq];rfl) (by intro y hy;simp at hy;subst hy;rfl)) (by rw[aa.bL];exact .nl)⟩
   ·simp only[go_sem,simprocAttr,h0,h6]
    refine U (TG hT aK tt _) ?_;rw[<-tB];cases hf:iv T s
    ·simp only[go_sem,simprocAttr,hf]
     refine U (hA H _ p s hp hs) ?_;have bt:=hs.run sA;rw[rest hf];clear rest yes;rcases hq:dx T T.length ex s with⟨⟨k,n,u,t,q,ks,ms⟩,s2⟩
     rw[hq]at bt;simp only[go_sem,simprocAttr,aa.cells];by_cases h4:tk=4
     ·rw[if_pos h4]
      simp only[go_sem,simprocAttr,dT h4];refine U (Af hT aK H _ p s2 hp bt) ?_;cases hg:dW T s2
      ·rw[jj hg]
       simp only[go_sem,simprocAttr,hg];exact⟨_,rfl,aZ (dP (aa.cells (.mk k n u t q ks ms)))⟩
      ·rw[fE hg,aN]
       simp only[go_sem,simprocAttr,hg];refine U (hA H _ p s2 hp bt) ?_;rcases dC:dx T T.length ex s2 with⟨⟨k',n',u',t',q',fY,nh⟩,s3⟩
       simp only[go_sem,simprocAttr,aa.cells,Nat.add_zero];exact⟨_,rfl,cL (cS (n:=H.length) (ys:=[aa.cells (.mk k' n' u' t' q' fY nh)]) (by omega) (by rw[lq];rfl) (by intro y hy;simp at hy;subst hy;rfl)) (.p _)⟩
     ·rw[if_neg h4]
      simp only[go_sem,simprocAttr,dF h4];exact⟨_,rfl,aZ (dP (aa.cells (.mk k n u t q ks ms)))⟩
    ·have dB:=hs.aE hT (by rw[hx];exact h8 hf)
     have fold:AO.var [yt T,iV (s.i+1:Nat),iV s.nest,iV s.d,iV lim,iV s.c,iV s.ps]=bG T lim (aE s):=rfl;rw[yes hf];clear rest yes;simp only[go_sem,simprocAttr,hf,qp hp,qq hp,ws aK hs];rw[fold];refine⟨_,Qp.hx hp _ _,?_⟩;simp only[go_sem,simprocAttr];refine aL _ _ (by simp) (Qp.hx hp _ _) (hA.chain hp dB) ?_;rcases hq:dx T T.length ex (aE s)with⟨⟨k,n,u,t,q,ks,ms⟩,s2⟩
     simp only[go_sem,simprocAttr,aa.cells,Nat.add_zero];exact⟨_,rfl,cL (cS (n:=H.length) (ys:=[aa.cells (.mk k n u t q ks ms)]) (by omega) (by rw[lq];rfl) (by intro y hy;simp at hy;subst hy;rfl)) (by rw[aa.bL];exact .nl)⟩
theorem TJ {ex:PM aa} (sr:ab T ex) {s:PS} (hi:s.i<T.length) (hg:dW T s=true):s.i<(dx T T.length ex s).2.i:=by
 unfold dx;rw[bE,aQ hg];have ha:=si hT hi (only_atNx s hg).2;have:=(AQ (N:=T.length) (t:=aD T s) hT sr) (aE s) (by simpa[aE]using ha);have h1:=this.1;simp only[aE]at h1⊢;omega
end
theorem bI.uR {n:Nat} {H H':List AO} (he:∀(id sz ver:Nat) (rs:List (List AV)),n<=id->H[id]?=some (.rows sz ver rs)->H'[id]?=some (.rows sz ver rs)) {a b:AV} (h:bI n H a b):bI n H' a b:=by
 induction h with
 |tf a h=>exact .tf a h
 |nl=>exact .nl
 |gs id ver off k sz rs ys hn hid hlen ie eN hc ih=>exact .gs id ver off k sz rs ys hn (he _ _ _ _ hn hid) hlen ie eN ih
 |st l m hlen hc ih=>exact .st l m hlen ih
 |dK l m hlen hc ih=>exact .dK l m hlen ih
theorem fp.get {n:Nat} {H:List AO} {l m:List AV} (h:fp n H l m):l.length=m.length∧∀(j:Nat) a b,l[j]?=some a→m[j]?=some b→bI n H a b:=by
  induction h with
  |nil=>exact⟨rfl,fun j a b h=>by simp at h⟩
  |cons h _ ih=>
   refine⟨by simp[ih.1],fun j a b ha hb=> ?_⟩
   cases j with
   |zero=>simp at ha hb;subst ha;subst hb;exact h
   |succ j=>exact ih.2 j a b (by simpa using ha) (by simpa using hb)
theorem IF {n id ver sz:Nat} {H:List AO} {r1 r2:List AV} {y1 y2:List PV} (hn:n<=id) (h:H[id]?=some (.rows sz ver [r1,r2])) (h1:fp n H r1 (y1.map .p)) (h2:fp n H r2 (y2.map .p)) (l1:y1.length=sz) (l2:y2.length=sz):bI n H (.gs id ver 0 2) (.p (.l [y1,y2])):=by
 refine .gs id ver 0 2 sz _ [y1,y2] hn h (by simp) rfl (by intro y hy;simp at hy;rcases hy with rfl|rfl<;>assumption) ?_;intro i r y j c q hr hy hc hq;rw[Nat.zero_add]at hr
 match i with
 |0=>cases hr;cases hy;exact h1.get.2 j c _ hc (by simp[hq])
 |1=>cases hr;cases hy;exact h2.get.2 j c _ hc (by simp[hq])
 |i+2=>simp at hr
theorem abe (H A B:List AO) (p:Nat) (c:AO):(H.set p c++(A++B))[H.length+A.length]?=B[0]?:=pO H A B p c 0
structure Lc {α:Type} (T:List Tok) (e:Nat) (g:PS->Bool) (m:α->PM α) (R:α×PS) (j:Nat) (s:PS) (a:α):Prop where
 ok:Ok T e s
 fu:s.c=0->T.length-s.i<=j
 eq:carry g m j a s=R
section
variable {α:Type} {T:List Tok} {e:Nat} {g:PS->Bool} {m:α->PM α} {R:α×PS} {j:Nat} {s:PS} {a:α}
theorem Lc.start (hs:Ok T e s) (h:carry g m T.length a s=R):Lc T e g m R T.length s a:=⟨hs,fun _=>by omega,h⟩
theorem Lc.stop (h:Lc T e g m R j s a) (hg:g s=false):R=(a,s):=by rw[<-h.eq,ru hg]
theorem Lc.succ (h:Lc T e g m R j s a) (ho:eI T g) (hg:g s=true):∃j',j=j'+1:=⟨j-1,by have:=h.fu (ho s hg).1;have:=h.ok.1;omega⟩
theorem Lc.next (h:Lc T e g m R (j+1) s a) (ho:eI T g) (hg:g s=true) {a2:α} {s2:PS} (hm:m a s=(a2,s2)) (bt:Ok T e s2) (cG:s.i<s2.i):Lc T e g m R j s2 a2:=
 ⟨bt,fun _=>by have:=h.fu (ho s hg).1;omega,by have:=h.eq;rw[carry,if_pos hg,hm]at this;exact this⟩
end
def EvA (H:List AO) (p:Nat) (c:AO) (A:List AO) (i:Nat) (x:aa):Prop:=∃k n u t q ks ms a b,x=.mk k n u t q ks ms/\bI H.length (H.set p c++A) a (.p (.l (aa.aJ ks)))/\bI H.length (H.set p c++A) b (.p (.l (aa.bL ms)))/\A[i]?=some (.var [iV k,sV n,iV u,sV t,iV q,a,b])
abbrev ZE:AO:=.var [iV 0,sV [],iV 0,sV [],iV 0,.p .nl,.p .nl]
theorem kh {H A B:List AO} {p:Nat} {c d:AO} (h:∀(k sz ver:Nat) (rs:List (List AV)),A[k]?=some (.rows sz ver rs)->B[k]?=some (.rows sz ver rs)):∀(id sz ver:Nat) (rs:List (List AV)),H.length<=id->(H.set p c++A)[id]?=some (.rows sz ver rs)->(H.set p d++B)[id]?=some (.rows sz ver rs):=fun id sz ver rs hid hr=>by
 rw[rM hid]at hr⊢;exact h _ _ _ _ hr
theorem mm {A:List AO} {i:Nat} {o:AO} {cs:List AV} (hi:A[i]?=some (.var cs)):∀(k sz ver:Nat) (rs:List (List AV)),A[k]?=some (.rows sz ver rs)->(A.set i o)[k]?=some (.rows sz ver rs):=fun k sz ver rs h=>aM h (by rintro rfl;rw[hi]at h;cases h)
theorem Ag {H A B:List AO} {p:Nat} {c d:AO} {k u q:Int} {n t:List UInt8} {ks:List aa} {ms:List ar} {a b:AV} {y:aa} (ha:bI H.length (H.set p c++A) a (.p (.l (aa.aJ ks)))) (hb:bI H.length (H.set p c++A) b (.p (.l (aa.bL ms))))
  (hk:∀(k sz ver:Nat) (rs:List (List AV)),A[k]?=some (.rows sz ver rs)->B[k]?=some (.rows sz ver rs)) {i:Nat} (hi:B[i]?=some (.rows 7 0 [[iV k,sV n,iV u,sV t,iV q,a,b],y.cells.map .p])):
  bI H.length (H.set p d++B) (.gs (H.length+i) 0 0 2) (.p (.l (aa.aJ [.mk k n u t q ks ms,y]))):=
 IF (by omega) (by rw[lq];exact hi) (.pc (.pc (.pc (.pc (.pc (.cons (bI.uR (kh hk) ha) (.cons (bI.uR (kh hk) hb) .nil))))))) (fp.pure _) (Gn (.mk k n u t q ks ms)) (Gn y)
section
variable {T:List Tok} {lim e:Nat} (hT:bH T) (aK:T.length<=1073741825)
include hT aK
theorem adn {ex:PM aa} (hr:PF (bG T lim) T e 34 [] ex jQ) (sr:ab T ex):PF (bG T lim) T e 170 [] (jY T T.length ex) jQ:=by
 have hP:=adm hT aK hr sr;have sP:=w7 (N:=T.length) hT sr;have hA:=NC hT aK hr sr;have sA:=j6 (N:=T.length) hT sr;refine dm (dt T lim) fun H p s hp hs=>?_
 refine call170 (by simp) ?_;simp only[go_sem,simprocAttr,KM,Sv];refine U (hP H _ p s hp hs) ?_;have bx:=hs.run sP;rcases hq:wv T T.length ex s with⟨⟨k,n,u,t,q,ks,ms⟩,s1⟩
 rw[hq]at bx;have iN:jY T T.length ex s=yi T T.length (dx T T.length ex) (.mk k n u t q ks ms) s1:=by unfold jY;rw[aN,hq]
 rw[iN];unfold yi;generalize hR:carry (dW T) (fun a=>az (dx T T.length ex) fun b=>aO (node2 9 [] a.pos a b)) T.length (.mk k n u t q ks ms) s1=R;simp only[go_sem,simprocAttr,aa.cells]
 refine⟨Nat×PS×aa×List AO,[0,2,3],fun x st=>(Lc T e (dW T) (fun a=>az (dx T T.length ex) fun b=>aO (node2 9 [] a.pos a b)) R x.1 x.2.1 x.2.2.1/\EvA H p (bG T lim x.2.1) x.2.2.2 1 x.2.2.1/\x.2.2.2[0]?=some ZE)/\
   st=⟨[(0,.ptr p 0),(2,.ptr H.length 0),(3,.ptr (H.length+1) 0)],[],H.set p (bG T lim x.2.1)++x.2.2.2⟩,fun x=>T.length-x.2.1.i,⟨(T.length,s1,.mk k n u t q ks ms,[ZE,.var [iV k,sV n,iV u,sV t,iV q,.p (.l (aa.aJ ks)),.p (.l (aa.bL ms))]]),?_⟩,?_⟩
 ·simp only[go_sem,simprocAttr]
  exact⟨Lc.start bx hR,_,_,_,_,_,_,_,_,_,rfl,.p _,.p _,rfl⟩
 ·rintro⟨j,s',x,A⟩ _ ⟨⟨hL,⟨k,n,u,t,q,ks,ms,a,b,IG,ha,hb,i9⟩,i8⟩,rfl⟩
  simp only at hL IG ha hb i8 i9⊢;subst IG;simp only[go_sem,simprocAttr];refine U (Af hT aK H _ p s' hp hL.ok) ?_;cases hg:dW T s'
  ·have TL:=hL.stop hg
   subst TL;have hz:∀o,(A.set 0 o)[0]?=some o:=fun o=>aR i8
   simp only[go_sem,simprocAttr,hg,i9,i8,hz];exact⟨_,rfl,cL (bI.uR (kh (mm i8)) ha) (bI.uR (kh (mm i8)) hb)⟩
  ·obtain⟨j,rfl⟩:=hL.succ only_atNx hg
   have cG:=TJ hT aK sr hL.ok.1 hg;have bt:=hL.ok.run sA;simp only[go_sem,simprocAttr,hg];refine⟨_,Qp.hx hp _ _,?_⟩;simp only[go_sem,simprocAttr,i9];refine aL _ _ (by simp) (Qp.hx hp _ _) (hA.chain hp hL.ok) ?_;rcases dC:dx T T.length ex s' with⟨y,s2⟩
   rw[dC]at cG bt;obtain⟨k',n',u',t',q',fY,nh⟩:=y;have Lf:=ag i8 [AO.rows 7 0 [[iV k,sV n,iV u,sV t,iV q,a,b],[iV k',sV n',iV u',sV t',iV q',.p (.l (aa.aJ fY)),.p (.l (aa.bL nh))]]];have xp:=ag i9 [AO.rows 7 0 [[iV k,sV n,iV u,sV t,iV q,a,b],[iV k',sV n',iV u',sV t',iV q',.p (.l (aa.aJ fY)),.p (.l (aa.bL nh))]]];simp only[go_sem,simprocAttr,aa.cells,xp,Nat.add_zero];have cK:1≠A.length:=by intro h;rw[h]at i9;simp at i9
   have hm:(fun a=>az (dx T T.length ex) fun b=>aO (node2 9 [] a.pos a b)) (aa.mk k n u t q ks ms) s'=(node2 9 [] q (.mk k n u t q ks ms) (.mk k' n' u' t' q' fY nh),s2):=by simp only[aN,dC];rfl
   refine⟨(j,s2,node2 9 [] q (.mk k n u t q ks ms) (.mk k' n' u' t' q' fY nh),_),⟨⟨hL.next only_atNx hg hm bt cG,⟨9,[],0,[],q,_,[],_,.p .nl,rfl,?_,by rw[aa.bL];exact .nl,aR xp⟩,aM Lf (by decide)⟩,rfl⟩,by have h1:s'.i<s2.i:=cG;have:=hL.ok.1;simp only;omega⟩;exact Ag ha hb (fun k sz ver rs h=>mm xp k sz ver rs (ag h _)) (aM (by rw[fX];rfl) cK)
end
end Go.Proofs.YteilijfligofdaaGreatDoor.Qp