/- Texts QbB QcB QcC QcD QcE QcF QcG QcH QcI QcJ QcK QcL QeA, merged. -/
import Derived.Test.YtjkbbnfdbfcebaaGreatDoorKAB
import Derived.Test.YtjkbbnfdbfcebaaGreatDoorChecked
import Derived.KernelRfl
set_option linter.all false
set_option maxRecDepth 100000
namespace Go.Proofs.YtjkbbnfdbfcebaaGreatDoor.Mc
open Go.AM
def Sc:bl (Tryz.f55.body.map (compile [0,1,2,3,4,5,6,7,8,9,10,11,15,20,27,34,59,75,105,119,139] Tryz.prog 147)):=⟨_,by conv=>lhs;cbv⟩
def abc:List MR:=[.cell true 7 4]
theorem call55:ax Tryz.prog 55 147 Sc.m abc:=Sc.call Tryz.func55 (by kernel_rfl)
def Sd:bl (Tryz.f56.body.map (compile [0,4] Tryz.prog 7)):=⟨_,by conv=>lhs;cbv⟩
def abd:List MR:=[]
theorem call56:ax Tryz.prog 56 7 Sd.m abd:=Sd.call Tryz.func56 (by kernel_rfl)
def Ki:bl (Tryz.f111.body.map (compile [0,2] Tryz.prog 9)):=⟨_,by conv=>lhs;cbv⟩
def Se:List MR:=[.t 2]
theorem call111:ax Tryz.prog 111 9 Ki.m Se:=Ki.call Tryz.func111 (by kernel_rfl)
def Sf:bl (Tryz.f20.body.map (compile [0,2,3,5] Tryz.prog 19)):=⟨_,by conv=>lhs;cbv⟩
def abe:List MR:=[.cell true 8 2]
theorem call20:ax Tryz.prog 20 19 Sf.m abe:=Sf.call Tryz.func20 (by kernel_rfl)
def FO:bl (Tryz.f117.body.map (compile [0,1,4,10,15] Tryz.prog 28)):=⟨_,by conv=>lhs;cbv⟩
def Kj:List MR:=[.t 4]
theorem call117:ax Tryz.prog 117 28 FO.m Kj:=FO.call Tryz.func117 (by kernel_rfl)
def Kk:bl (Tryz.f110.body.map (compile [0,2] Tryz.prog 13)):=⟨_,by conv=>lhs;cbv⟩
def Sg:List MR:=[.cell true 4 2]
theorem call110:ax Tryz.prog 110 13 Kk.m Sg:=Kk.call Tryz.func110 (by kernel_rfl)
def Kl:bl (Tryz.f118.body.map (compile [0,1,2] Tryz.prog 7)):=⟨_,by conv=>lhs;cbv⟩
def Sh:List MR:=[.cell true 7 2]
theorem call118:ax Tryz.prog 118 7 Kl.m Sh:=Kl.call Tryz.func118 (by kernel_rfl)
def Km:bl (Tryz.f115.body.map (compile [0,1,4,8] Tryz.prog 16)):=⟨_,by conv=>lhs;cbv⟩
def Si:List MR:=[.t 4]
theorem call115:ax Tryz.prog 115 16 Km.m Si:=Km.call Tryz.func115 (by kernel_rfl)
def Kn:bl (Tryz.f114.body.map (compile [0,1,4,8] Tryz.prog 30)):=⟨_,by conv=>lhs;cbv⟩
def Sj:List MR:=[.t 4]
theorem call114:ax Tryz.prog 114 30 Kn.m Sj:=Kn.call Tryz.func114 (by kernel_rfl)
def Ko:bl (Tryz.f112.body.map (compile [0,1,5,6,7,8,9,15] Tryz.prog 19)):=⟨_,by conv=>lhs;cbv⟩
def Sk:List MR:=[]
theorem call112:ax Tryz.prog 112 19 Ko.m Sk:=Ko.call Tryz.func112 (by kernel_rfl)
def Kq:bl (Tryz.f119.body.map (compile [0,1,4,5,6,10,16,57] Tryz.prog 64)):=⟨_,by conv=>lhs;cbv⟩
def Sl:List MR:=[.cell true 5 4]
theorem call119:ax Tryz.prog 119 64 Kq.m Sl:=Kq.call Tryz.func119 (by kernel_rfl)
def FP:bl (Tryz.f120.body.map (compile [0,1,2,3,5,6,7,8,9,10,12,18,27,28,29,30,35] Tryz.prog 46)):=⟨_,by conv=>lhs;cbv⟩
def Kr:List MR:=[.cell true 7 6]
theorem call120:ax Tryz.prog 120 46 FP.m Kr:=FP.call Tryz.func120 (by kernel_rfl)
def Ks:bl (Tryz.f113.body.map (compile [0,1,4] Tryz.prog 15)):=⟨_,by conv=>lhs;cbv⟩
def Sm:List MR:=[.t 4]
theorem call113:ax Tryz.prog 113 15 Ks.m Sm:=Ks.call Tryz.func113 (by kernel_rfl)
def FQ:bl (Tryz.f121.body.map (compile [0,1,9] Tryz.prog 18)):=⟨_,by conv=>lhs;cbv⟩
def Kt:List MR:=[]
theorem call121:ax Tryz.prog 121 18 FQ.m Kt:=FQ.call Tryz.func121 (by kernel_rfl)
def Sn:bl (Tryz.f53.body.map (compile [0,1,4,5] Tryz.prog 27)):=⟨_,by conv=>lhs;cbv⟩
def abf:List MR:=[.t 4]
theorem call53:ax Tryz.prog 53 27 Sn.m abf:=Sn.call Tryz.func53 (by kernel_rfl)
def So:bl (Tryz.f54.body.map (compile [0,2,3,4,13,34,47] Tryz.prog 52)):=⟨_,by conv=>lhs;cbv⟩
def abg:List MR:=[.cell true 4 2]
theorem call54:ax Tryz.prog 54 52 So.m abg:=So.call Tryz.func54 (by kernel_rfl)
def Ku:bl (Tryz.f161.body.map (compile [0,1,4,5,6,15,19,26,33,38,42] Tryz.prog 57)):=⟨_,by conv=>lhs;cbv⟩
def Sp:List MR:=[.cell true 5 4]
theorem call161:ax Tryz.prog 161 57 Ku.m Sp:=Ku.call Tryz.func161 (by kernel_rfl)
def Kv:bl (Tryz.f162.body.map (compile [0,1,2] Tryz.prog 6)):=⟨_,by conv=>lhs;cbv⟩
def Sq:List MR:=[.cell true 7 2]
theorem call162:ax Tryz.prog 162 6 Kv.m Sq:=Kv.call Tryz.func162 (by kernel_rfl)
def FR:bl (Tryz.f163.body.map (compile [0,1,2,3,5,6,7,8,9,10,16,31] Tryz.prog 51)):=⟨_,by conv=>lhs;cbv⟩
def Kw:List MR:=[.cell true 7 6]
theorem call163:ax Tryz.prog 163 51 FR.m Kw:=FR.call Tryz.func163 (by kernel_rfl)
def Kx:bl (Tryz.f164.body.map (compile [0,1,2] Tryz.prog 6)):=⟨_,by conv=>lhs;cbv⟩
def Sr:List MR:=[.cell true 7 2]
theorem call164:ax Tryz.prog 164 6 Kx.m Sr:=Kx.call Tryz.func164 (by kernel_rfl)
def Ky:bl (Tryz.f116.body.map (compile [0,1,4,5,6,10,17,29,38] Tryz.prog 49)):=⟨_,by conv=>lhs;cbv⟩
def Ss:List MR:=[.cell true 4 4]
theorem call116:ax Tryz.prog 116 49 Ky.m Ss:=Ky.call Tryz.func116 (by kernel_rfl)
def Kz:bl (Tryz.f192.body.map (compile [0,1,4,5,6,19,27,40] Tryz.prog 48)):=⟨_,by conv=>lhs;cbv⟩
def Su:List MR:=[.cell true 5 4]
theorem call192:ax Tryz.prog 192 48 Kz.m Su:=Kz.call Tryz.func192 (by kernel_rfl)
def KA:bl (Tryz.f193.body.map (compile [0,1,2] Tryz.prog 6)):=⟨_,by conv=>lhs;cbv⟩
def Sv:List MR:=[.cell true 7 2]
theorem call193:ax Tryz.prog 193 6 KA.m Sv:=KA.call Tryz.func193 (by kernel_rfl)
def KB:bl (Tryz.f194.body.map (compile [0,1,4,5,10] Tryz.prog 20)):=⟨_,by conv=>lhs;cbv⟩
def Sw:List MR:=[.cell true 7 4]
theorem call194:ax Tryz.prog 194 20 KB.m Sw:=KB.call Tryz.func194 (by kernel_rfl)
def KC:bl (Tryz.f195.body.map (compile [0,1,2] Tryz.prog 6)):=⟨_,by conv=>lhs;cbv⟩
def Sx:List MR:=[.cell true 7 2]
theorem call195:ax Tryz.prog 195 6 KC.m Sx:=KC.call Tryz.func195 (by kernel_rfl)
def KD:bl (Tryz.f160.body.map (compile [0,1,4,5,6,9,19,43] Tryz.prog 56)):=⟨_,by conv=>lhs;cbv⟩
def Sy:List MR:=[.cell true 4 4]
theorem call160:ax Tryz.prog 160 56 KD.m Sy:=KD.call Tryz.func160 (by kernel_rfl)
def KE:bl (Tryz.f218.body.map (compile [0,1,4,5,7,8,11,12,13,14,19,31,48] Tryz.prog 55)):=⟨_,by conv=>lhs;cbv⟩
def Sz:List MR:=[.cell true 7 4]
theorem call218:ax Tryz.prog 218 55 KE.m Sz:=KE.call Tryz.func218 (by kernel_rfl)
def KG:bl (Tryz.f219.body.map (compile [0,2] Tryz.prog 33)):=⟨_,by conv=>lhs;cbv⟩
def SA:List MR:=[.t 2]
theorem call219:ax Tryz.prog 219 33 KG.m SA:=KG.call Tryz.func219 (by kernel_rfl)
def KH:bl (Tryz.f220.body.map (compile [0,1,4,5,6,15,22,29,34,38,45,52] Tryz.prog 67)):=⟨_,by conv=>lhs;cbv⟩
def SB:List MR:=[.cell true 7 4]
theorem call220:ax Tryz.prog 220 67 KH.m SB:=KH.call Tryz.func220 (by kernel_rfl)
def KI:bl (Tryz.f191.body.map (compile [0,1,4,5,6,9,24] Tryz.prog 50)):=⟨_,by conv=>lhs;cbv⟩
def SC:List MR:=[.cell true 4 4]
theorem call191:ax Tryz.prog 191 50 KI.m SC:=KI.call Tryz.func191 (by kernel_rfl)
def KJ:bl (Tryz.f232.body.map (compile [0,1,4,5,6,19,27,40] Tryz.prog 48)):=⟨_,by conv=>lhs;cbv⟩
def SE:List MR:=[.cell true 7 4]
theorem call232:ax Tryz.prog 232 48 KJ.m SE:=KJ.call Tryz.func232 (by kernel_rfl)
end Go.Proofs.YtjkbbnfdbfcebaaGreatDoor.Mc
namespace Go.Proofs.YtjkbbnfdbfcebaaGreatDoor.Pg
open Go.AM
mutual
def af.tv:af->List TV
 | .mk k n p ks=>[.p (.i .i64 k),.p (.s n),.p (.i .i64 p),.s 4 (af.mR ks)]
def af.mR:List af->List (List TV)
 |[]=>[]
 |t::l=>t.tv::af.mR l
end
mutual
def ae.tv:ae->List TV
 | .mk k n u p ks=>[.p (.i .i64 k),.p (.s n),.p (.i .i64 u),.p (.i .i64 p),.s 5 (ae.mR ks)]
def ae.mR:List ae->List (List TV)
 |[]=>[]
 |t::l=>t.tv::ae.mR l
end
mutual
def aa.tv:aa->List TV
 | .mk k n u t p ks aM=>[.p (.i .i64 k),.p (.s n),.p (.i .i64 u),.p (.s t),.p (.i .i64 p),.s 7 (aa.mR ks),.s 12 (aa.FT aM)]
def aa.mR:List aa->List (List TV)
 |[]=>[]
 |t::l=>t.tv::aa.mR l
def al.tv:al->List TV
 | .mk p e=>p.tv++e.tv
def aa.FT:List al->List (List TV)
 |[]=>[]
 |t::l=>t.tv::aa.FT l
end
theorem af.oG (l:List af):af.mR l=l.map af.tv:=by
 induction l with
 |nil=>rfl
 |cons t l ih=>rw[af.mR,ih];rfl
theorem ae.oG (l:List ae):ae.mR l=l.map ae.tv:=by
 induction l with
 |nil=>rfl
 |cons t l ih=>rw[ae.mR,ih];rfl
theorem aa.oG (l:List aa):aa.mR l=l.map aa.tv:=by
 induction l with
 |nil=>rfl
 |cons t l ih=>rw[aa.mR,ih];rfl
theorem aa.ML (l:List al):aa.FT l=l.map al.tv:=by
 induction l with
 |nil=>rfl
 |cons t l ih=>rw[aa.FT,ih];rfl
theorem af.cm (t:af):t.tv.length=4:=by cases t;rw[af.tv];rfl
theorem ae.cm (t:ae):t.tv.length=5:=by cases t;rw[ae.tv];rfl
theorem aa.cm (t:aa):t.tv.length=7:=by cases t;rw[aa.tv];rfl
theorem al.cm (t:al):t.tv.length=12:=by cases t;rw[al.tv,List.length_append,ae.cm,aa.cm]
theorem yd:∀{a b:List TV},mM a→mM b→mM (a++b)
  |[],b,_,h=>h
  |t::a,b,h,k=>by
   rw[mM]at h;rw[List.cons_append,mM];exact⟨h.1,yd h.2 k⟩
theorem mw {x:PV} {l:List TV} (h:mM l):mM (.p x::l):=by rw[mM,Qk];exact⟨trivial,h⟩
theorem Cv {sz:Nat} {r:List (List TV)} {l:List TV} (h:pS sz r) (k:mM l):mM (.s sz r::l):=by rw[mM,Qk];exact⟨h,k⟩
theorem Cw:mM []:=by rw[mM];trivial
mutual
theorem af.wf:∀t:af,mM t.tv
 | .mk k n p ks=>by rw[af.tv];exact mw (mw (mw (Cv (af.HR ks) Cw)))
theorem af.HR:∀l:List af,pS 4 (af.mR l)
 |[]=>by rw[af.mR,pS];trivial
 |t::l=>by rw[af.mR,pS];exact⟨t.cm,t.wf,af.HR l⟩
end
mutual
theorem ae.wf:∀t:ae,mM t.tv
 | .mk k n u p ks=>by rw[ae.tv];exact mw (mw (mw (mw (Cv (ae.HR ks) Cw))))
theorem ae.HR:∀l:List ae,pS 5 (ae.mR l)
 |[]=>by rw[ae.mR,pS];trivial
 |t::l=>by rw[ae.mR,pS];exact⟨t.cm,t.wf,ae.HR l⟩
end
mutual
theorem aa.wf:∀t:aa,mM t.tv
 | .mk k n u t p ks aM=>by rw[aa.tv];exact mw (mw (mw (mw (mw (Cv (aa.HR ks) (Cv (aa.wfA aM) Cw))))))
theorem aa.HR:∀l:List aa,pS 7 (aa.mR l)
 |[]=>by rw[aa.mR,pS];trivial
 |t::l=>by rw[aa.mR,pS];exact⟨t.cm,t.wf,aa.HR l⟩
theorem al.wf:∀t:al,mM t.tv
 | .mk p e=>by rw[al.tv];exact yd p.wf e.wf
theorem aa.wfA:∀l:List al,pS 12 (aa.FT l)
 |[]=>by rw[aa.FT,pS];trivial
 |t::l=>by rw[aa.FT,pS];exact⟨t.cm,t.wf,aa.wfA l⟩
end
end Go.Proofs.YtjkbbnfdbfcebaaGreatDoor.Pg
namespace Go.Proofs.YtjkbbnfdbfcebaaGreatDoor.Qp
open Go.AM Mc Pg
def db (T:List Tok) (most:Nat) (s:PS):AO:=.var [sY T,iV s.i,iV most,iV s.d,iV s.c,iV s.ps]
theorem iA (T most s c) (h:sT c (db T most s)):Tf c:=by
 simp only[db,sT,List.mem_cons,List.not_mem_nil,or_false]at h;rcases h with rfl|rfl|rfl|rfl|rfl|rfl<;>exact bw _
section
variable {T:List Tok} {most e:Nat}
theorem lE:PF (db T most) T e 110 [] (aa5 T) tv:=by
 refine dy (iA T most) fun H p s hp hs=>?_
 have aj:decide ((s.i:Int)<(T.length:Int))=true:=by simp;exact hs.1
 have hg:=Cp hs.1;refine call110 (by simp) ?_;simp only[go_sem,simprocAttr,Kk,Sg];refine ao ?_;simp only[go_sem,simprocAttr,qp hp,db,List.length_map,aj,hg,Tok.cells];exact⟨_,rfl,bt (dK (aJ T s).cells)⟩
theorem kg:PF (db T most) T e 111 [] (r8 fun s=>!decide (s.c=0)) bV:=by
 refine dy (iA T most) fun H p s hp hs=>?_
 refine call111 (by simp) ?_;simp only[go_sem,simprocAttr,Ki,Se,mj hp,db];exact⟨[],by simp,bt (bw _)⟩
theorem iY (k:Int):PF (db T most) T e 113 [iV k] (r8 (bB T k)) bV:=by
 refine dy (iA T most) fun H p s hp hs=>?_
 refine call113 (by simp) ?_;simp only[go_sem,simprocAttr,Ks,Sm];refine U (kg.nil hp hs) ?_;have eT:bB T k s=(decide (s.c=0)&&decide ((aJ T s).k=k)):=rfl;rw[eT];cases h0:decide (s.c=0)
 ·simp only[go_sem,simprocAttr,h0,Bool.false_and,Bool.not_false,Bool.not_true]
  exact⟨[],by simp,bt (bw _)⟩
 ·simp only[go_sem,simprocAttr,h0,Bool.true_and,Bool.not_false,Bool.not_true]
  refine U (lE.nil hp hs) ?_;simp only[go_sem,simprocAttr,Tok.cells];exact⟨[],by simp,bt (bw _)⟩
theorem ur (x:List UInt8):PF (db T most) T e 53 [sV x] (r8 (aL T x)) bV:=by
 refine dy (iA T most) fun H p s hp hs=>?_
 refine call53 (by simp) ?_;simp only[go_sem,simprocAttr,Sn,abf];refine U (lE.nil hp hs) ?_;have eT:aL T x s=(decide (s.c=0)&&(decide ((aJ T s).k=6)||decide ((aJ T s).k=7))&&decide ((aJ T s).t=x)):=rfl;rw[eT];simp only[go_sem,simprocAttr,qp hp,Tok.cells];refine U (kg H _ p s hp hs) ?_;cases h0:decide (s.c=0)
 ·simp only[go_sem,simprocAttr,h0,Bool.false_and,Bool.not_false,Bool.not_true]
  exact⟨_,rfl,bt (bw _)⟩
 cases h6:decide ((aJ T s).k=6)
 ·cases h7:decide ((aJ T s).k=7)
  ·simp only[go_sem,simprocAttr,h0,h6,h7,Bool.or_self,Bool.and_false,Bool.false_and,Bool.not_false,Bool.not_true]
   exact⟨_,rfl,bt (bw _)⟩
  ·simp only[go_sem,simprocAttr,h0,h6,h7,Bool.false_or,Bool.and_true,Bool.true_and,Bool.not_false,Bool.not_true]
   exact⟨_,rfl,bt (bw _)⟩
 ·simp only[go_sem,simprocAttr,h0,h6,Bool.true_or,Bool.and_true,Bool.true_and,Bool.not_false,Bool.not_true]
  exact⟨_,rfl,bt (bw _)⟩
theorem iq (aO:T.length<=1073741825) (x:List UInt8):PF (db T most) T e 115 [sV x] (dm T x) bV:=by
 refine dy (iA T most) fun H p s hp hs=>?_
 refine call115 (by simp) ?_;simp only[go_sem,simprocAttr,Km,Si];refine U ((ur x).nil hp hs) ?_;unfold dm;cases h:aL T x s
 ·simp only[go_sem,simprocAttr,h,Bool.not_false]
  exact⟨[],by simp,bt (bw _)⟩
 ·simp only[go_sem,simprocAttr,h,mj hp,db,vB,ws aO hs,Bool.not_true]
  exact⟨[],by simp[aI],bt (bw _)⟩
theorem FU (c:Int):PF (db T most) T e 121 [iV c] (Co (dQ T c)) uV:=by
 refine dy (iA T most) fun H p s hp hs=>?_
 refine call121 (by simp) ?_;cases h0:decide (s.c=0)
 ·simp only[go_sem,simprocAttr,FQ,Kt,mj hp,db,h0]
  rw[rb (of_decide_eq_false h0)];exact⟨[],by simp,bt (lT _ (by simp))⟩
 ·simp only[go_sem,simprocAttr,FQ,Kt,mj hp,db,h0]
  refine U (lE.nil hp hs) ?_;rw[iG (of_decide_eq_true h0)];simp only[go_sem,simprocAttr,mj hp,db,Tok.cells,vB];exact⟨[],by simp,bt (lT _ (by simp))⟩
theorem wX (aO:T.length<=1073741825) (k:Int):PF (db T most) T e 114 [iV k] (cZ T k) sV:=by
 refine dy (iA T most) fun H p s hp hs=>?_
 have aj:decide ((s.i:Int)<(T.length:Int))=true:=by simp;exact hs.1
 have hg:=Cp hs.1;have w1:wr .i64 (((s.i+1:Nat):Int)-1)=(s.i:Int):=by rw[fk (by omega) (by have:=hs.1;omega)];omega
 refine call114 (by simp) ?_;simp only[go_sem,simprocAttr,Kn,Sj];refine U ((iY k).nil hp hs) ?_;unfold cZ;cases h:bB T k s
 ·simp only[go_sem,simprocAttr,h,Bool.not_false]
  refine U ((FU 11).nil hp hs) ?_;simp only[go_sem,simprocAttr];exact⟨[],by simp,bt (bw _)⟩
 ·simp only[go_sem,simprocAttr,h,mj hp,db,vB,ws aO hs,Bool.not_true]
  refine ao ?_;simp only[go_sem,simprocAttr,mj hp,List.length_map,w1,aj,hg,Tok.cells];exact⟨[],by simp[aI],bt (bw _)⟩
theorem KK {d:Nat} (h:¬most<d) (s:PS):cT T most d s=if s.c=0 then{s with d:=max s.d d}else s:=by unfold cT;rw[if_neg h]
theorem Cx (d:Nat):PF (db T most) T e 117 [iV d] (fun s=>(decide ((cT T most d s).c=0),cT T most d s)) bV:=by
 refine dy (iA T most) fun H p s hp hs=>?_
 refine call117 (by simp) ?_;by_cases hd:most<d
 ·have d1:decide ((most:Int)<(d:Int))=true:=by simp;omega
  simp only[go_sem,simprocAttr,FO,Kj,mj hp,db,d1];refine U ((FU 12).nil hp hs) ?_;have bG:=hs.step (mN T 12)
  have cX:(dQ T 12 s).c≠0:=by
   by_cases h0:s.c=0
   ·rw[iG h0];exact(by decide:(12:Int)≠0)
   ·rw[rb h0];exact h0
  have iL:cT T most d s=dQ T 12 s:=by unfold cT;rw[if_pos hd];simp only[if_neg cX]
  rw[iL];simp only[go_sem,simprocAttr];refine U (kg.nil hp bG) ?_;simp only[go_sem,simprocAttr,dF cX,Bool.not_false,Bool.not_true];refine U (kg.nil hp bG) ?_;simp only[go_sem,simprocAttr,dF cX,Bool.not_false,Bool.not_true];exact⟨[],by rw[List.append_nil];rfl,bt (bw _)⟩
 ·have d1:decide ((most:Int)<(d:Int))=false:=by simp;omega
  simp only[go_sem,simprocAttr,FO,Kj,mj hp,db,d1];refine U (kg.nil hp hs) ?_;rw[KK hd];by_cases h0:s.c=0
  ·rw[if_pos h0]
   simp only[go_sem,simprocAttr,dT h0,Bool.not_false,Bool.not_true,mj hp,db,vB];have bG:Ok T e {s with d:=max s.d d}:=hs;have eM:(if(d:Int)>(s.d:Int)then(d:Int)else(s.d:Int))=((max s.d d:Nat):Int):=by split <;>omega
   rw[eM];refine U ((kg (most:=most)).nil hp bG) ?_;simp only[go_sem,simprocAttr,dT h0,Bool.not_false,Bool.not_true];exact⟨[],by rw[List.append_nil];rfl,bt (bw _)⟩
  ·rw[if_neg h0]
   simp only[go_sem,simprocAttr,dF h0,Bool.not_false,Bool.not_true,mj hp,db,vB];refine U (kg.nil hp hs) ?_;simp only[go_sem,simprocAttr,dF h0,Bool.not_false,Bool.not_true];exact⟨[],by rw[List.append_nil];rfl,bt (bw _)⟩
def wY (T:List Tok) (ws:List (List UInt8)) (s:PS):PS:=ws.foldl (fun s w=>aX T w s) s
theorem ir (hT:bL T) (aO:T.length<=1073741825) (ws:List (List UInt8)) (hw:ws.length<=100) {H A:List AO} {p id ver:Nat} {s:PS} (hp:p<H.length) (hs:Ok T e s) (hid:id≠p) (hi:∀c,(H.set p c++A)[id]?=some (.rows 1 ver (ws.map fun w=>[sV w]))):
  aA Tryz.prog 112 [.ptr p 0,.gs id ver 0 ws.length] (H.set p (db T most s)++A) (aW (.dX []) (H.set p (db T most (wY T ws s))++A)):=by
 refine call112 (by simp) ?_;simp only[go_sem,simprocAttr,Ko,Sk];intro _;refine⟨Nat×PS,[0,6,7,8],fun x st=>(x.1<=ws.length/\Ok T e x.2/\wY T (ws.drop x.1) x.2=wY T ws s)/\st=⟨[(0,.ptr p 0),(6,.gs id ver 0 ws.length),(7,iV ws.length),(8,iV x.1)],[],H.set p (db T most x.2)++A⟩,fun x=>ws.length-x.1,⟨(0,s),?_⟩,?_⟩
 ·simp only[go_sem,simprocAttr]
  exact⟨Nat.zero_le _,hs⟩
 ·rintro⟨j,s'⟩ _ ⟨⟨hj,lH,he⟩,rfl⟩
  simp only at hj lH he⊢;have HS:wr .i64 ((j:Int)+1)=((j+1:Nat):Int):=bp _ (by omega);by_cases aj:j<ws.length
  ·have d1:decide ((j:Int)<(ws.length:Int))=true:=by simp;omega
   have gd:(ws.map fun w=>[sV w])[j]?=some [sV ws[j]]:=by simp[aj]
   have d2:0+j=j:=by omega
   simp only[go_sem,simprocAttr,d1,hi,gd,Option.map_some];refine⟨by omega,?_⟩;refine U (iq aO ws[j] H _ p s' hp lH) ?_;have hdr:ws.drop j=ws[j]::ws.drop (j+1):=List.drop_eq_getElem_cons aj;have XO:wY T (ws.drop (j+1)) (aX T ws[j] s')=wY T ws s:=by rw[<-he,hdr];rfl
   have bD:=lH.step (aK hT ws[j]);unfold dm;cases hg:aL T ws[j] s'
   ·simp only[go_sem,simprocAttr,hg,Bool.not_false,Bool.not_true]
    refine U (FU 11 H _ p s' hp lH) ?_;simp only[go_sem,simprocAttr,HS];have ew:aX T ws[j] s'=dQ T 11 s':=by unfold aX;rw[hg];rfl
    rw[ew]at XO bD;exact⟨(j+1,dQ T 11 s'),⟨⟨aj,bD,XO⟩,rfl⟩,by simp only;omega⟩
   ·simp only[go_sem,simprocAttr,hg,Bool.not_false,Bool.not_true,HS]
    have ew:aX T ws[j] s'=aI s':=by unfold aX;rw[hg];rfl
    rw[ew]at XO bD;exact⟨(j+1,aI s'),⟨⟨aj,bD,XO⟩,rfl⟩,by simp only;omega⟩
  ·have d1:decide ((j:Int)<(ws.length:Int))=false:=by simp;omega
   simp only[go_sem,simprocAttr,d1];have:ws.drop j=[]:=by simp;omega
   rw[this]at he;rw[<-he];exact⟨rfl,rfl⟩
theorem Cy:PF (db T most) T e 219 [] (r8 (ei T)) bV:=by
 refine dy (iA T most) fun H p s hp hs=>?_
 refine call219 (by simp) ?_;simp only[go_sem,simprocAttr,KG,SA];unfold ei;refine U ((iY 1).nil hp hs) ?_;cases h1:bB T 1 s;rotate_left
 ·simp only[go_sem,simprocAttr,h1,Bool.true_or]
  exact⟨[],by simp,bt (bw _)⟩
 simp only[go_sem,simprocAttr,h1,Bool.false_or];refine U ((iY 2).nil hp hs) ?_;cases h2:bB T 2 s;rotate_left
 ·simp only[go_sem,simprocAttr,h2,Bool.true_or]
  exact⟨[],by simp,bt (bw _)⟩
 simp only[go_sem,simprocAttr,h2,Bool.false_or];refine U ((iY 3).nil hp hs) ?_;cases h3:bB T 3 s;rotate_left
 ·simp only[go_sem,simprocAttr,h3,Bool.true_or]
  exact⟨[],by simp,bt (bw _)⟩
 simp only[go_sem,simprocAttr,h3,Bool.false_or];refine U ((iY 4).nil hp hs) ?_;cases h4:bB T 4 s;rotate_left
 ·simp only[go_sem,simprocAttr,h4,Bool.true_or]
  exact⟨[],by simp,bt (bw _)⟩
 simp only[go_sem,simprocAttr,h4,Bool.false_or];refine U ((ur [116,114,117,101]).nil hp hs) ?_;cases h5:aL T [116,114,117,101] s;rotate_left
 ·simp only[go_sem,simprocAttr,h5,Bool.true_or]
  exact⟨[],by simp,bt (bw _)⟩
 simp only[go_sem,simprocAttr,h5,Bool.false_or];refine U ((ur [102,97,108,115,101]).nil hp hs) ?_;cases h6:aL T [102,97,108,115,101] s;rotate_left
 ·simp only[go_sem,simprocAttr,h6,Bool.true_or]
  exact⟨[],by simp,bt (bw _)⟩
 simp only[go_sem,simprocAttr,h6,Bool.false_or];refine U ((ur [114,101,97,100]).nil hp hs) ?_;cases h7:aL T [114,101,97,100] s;rotate_left
 ·simp only[go_sem,simprocAttr,h7,Bool.true_or]
  exact⟨[],by simp,bt (bw _)⟩
 simp only[go_sem,simprocAttr,h7,Bool.false_or];refine U ((ur [40]).nil hp hs) ?_;simp only[go_sem,simprocAttr];exact⟨[],by simp,bt (bw _)⟩
theorem agA:PF (db T most) T e 56 [] (Co (iU T)) uV:=by
 refine dy (iA T most) fun H p s hp hs=>?_
 refine call56 (by simp) ?_;simp only[go_sem,simprocAttr,Sd,abd];refine U ((iY 8).nil hp hs) ?_;unfold iU;cases h:bB T 8 s
 ·simp only[go_sem,simprocAttr,h,Bool.not_false,Bool.not_true]
  refine U ((FU 11).nil hp hs) ?_;simp only[go_sem,simprocAttr];exact⟨[],by simp,bt (lT _ (by simp))⟩
 ·simp only[go_sem,simprocAttr,h,Bool.not_false,Bool.not_true]
  exact⟨[],by simp,bt (lT _ (by simp))⟩
end
end Go.Proofs.YtjkbbnfdbfcebaaGreatDoor.Qp
namespace Go.Proofs.YtjkbbnfdbfcebaaGreatDoor.Qp
open Go.AM Mc Pg
theorem FV {H:List AO} {n:Nat} (hn:H.length=n) (A B:List AO) (p:Nat) (c:AO) (k:Nat):(H.set p c++(A++B))[n+A.length+k]?=B[k]?:=by subst hn;exact zA H A B p c k
theorem vW {H:List AO} {n:Nat} (hn:H.length=n) (A B:List AO) (p:Nat) (c:AO):(H.set p c++(A++B))[n+A.length]?=B[0]?:=FV hn A B p c 0
theorem gh (T w s):wY T [w] s=aX T w s:=rfl
theorem XP (T w w' s):wY T [w,w'] s=aX T w' (aX T w s):=rfl
structure LG (α:Type)where
 j:Nat
 s:PS
 acc:List α
 rs:List (List AV)
 a:AV
 H:List AO
 A:List AO
structure LO {α:Type} (pv:PS->AO) (T:List Tok) (e b n p:Nat) (K:List AO) (N:List Nat) (sz:Nat) (tv:α->List TV) (g:PS->Bool) (m:PM α) (Rl:List α) (Rs:PS) (x:LG α):Prop where
 ok:Ok T e x.s
 ln:x.acc.length<=x.s.i+1
 fu:x.s.c=0->T.length-x.s.i<=x.j
 rl:x.acc++(many g m x.j x.s).1=Rl
 re:(many g m x.j x.s).2=Rs
 hn:x.H.length=n
 kp:Kp b K x.H
 fr:∃M,Fr b x.H M/\nR ((many g m x.j x.s).1.map tv)<=M
 env:Env b n (x.H.set p (pv x.s)++x.A) (x.acc.map tv).flatten x.rs.flatten
 len:x.rs.length=x.acc.length
 sz1:∀r∈x.rs,r.length=sz
 own:jr (x.H.set p (pv x.s)++x.A) x.a sz x.rs
 ids:∀id v o m,x.a=.gs id v o m->n<=id/\id-n∉N
 nm:∀k∈N,k<x.A.length
section
variable {α:Type} {pv:PS->AO} {T:List Tok} {e b n p sz:Nat} {K:List AO} {N:List Nat} {tv:α->List TV} {g:PS->Bool} {m:PM α} {Rl:List α} {Rs:PS}
theorem LO.start {H A:List AO} {s:PS} {M:Nat} (hs:Ok T e s) (h:many g m T.length s=(Rl,Rs)) (hn:H.length=n) (hk:Kp b K H) (hF:Fr b H M) (hM:nR (Rl.map tv)<=M) (hb:∀k∈N,k<A.length):LO pv T e b n p K N sz tv g m Rl Rs ⟨T.length,s,[],[],.p .nl,H,A⟩:=
 ⟨hs,Nat.zero_le _,fun _=>by simp only;omega,by simp only[h];rfl,by simp only[h],hn,hk,⟨M,hF,by simp only[h];exact hM⟩,Env.nil _ _ _,rfl,by simp,.inl ⟨rfl,rfl⟩,(fun _ _ _ _ e=>by cases e),hb⟩
theorem LO.nd {H A:List AO} {s:PS} {M i ver:Nat} {x:α} {cs:List AV} (hs:Ok T e s) (h:many g m T.length s=(Rl,Rs)) (hn:H.length=n) (hk:Kp b K H) (hF:Fr b H M) (hM:nR (Rl.map tv)<=M) (hE:Env b n (H.set p (pv s)++A) (tv x) cs) (cL:cs.length=sz) (hi:A[i]?=some (.rows sz ver [cs])) (hN:i∉N) (hb:∀k∈N,k<A.length):
  LO pv T e b n p K N sz tv g m (x::Rl) Rs ⟨T.length,s,[x],[cs],.gs (n+i) ver 0 1,H,A⟩:=
 ⟨hs,by simp,fun _=>by simp only;omega,by simp only[h];rfl,by simp only[h],hn,hk,⟨M,hF,by simp only[h];exact hM⟩,by simpa using hE,rfl,by simpa using cL,.inr ⟨_,_,rfl,by simp only;rw[az hn];exact hi⟩,(fun _ _ _ _ e=>by cases e;exact⟨by omega,by rwa[Nat.add_sub_cancel_left]⟩),hb⟩
theorem LO.stop {x:LG α} (h:LO pv T e b n p K N sz tv g m Rl Rs x) (hg:g x.s=false):x.acc=Rl/\x.s=Rs:=by
 have h1:=h.rl;have h2:=h.re;rw[kD hg]at h1 h2;exact⟨by simpa using h1,h2⟩
theorem LO.succ {x:LG α} (h:LO pv T e b n p K N sz tv g m Rl Rs x) (ho:eN T g) (hg:g x.s=true):∃j',x.j=j'+1:=⟨x.j-1,by have:=h.fu (ho x.s hg).1;have:=h.ok.1;omega⟩
theorem LO.room {x:LG α} (h:LO pv T e b n p K N sz tv g m Rl Rs x) (ho:eN T g) (hg:g x.s=true) {y:α} {s2:PS} (hm:m x.s=(y,s2)):∃M,Fr b x.H M/\nC (tv y)+nR ((many g m (x.j-1) s2).1.map tv)<=M:=by
 obtain⟨j',hj⟩:=h.succ ho hg;obtain⟨M,h1,h2⟩:=h.fr;refine⟨M,h1,?_⟩;rw[hj,many,if_pos hg,hm]at h2;rw[hj,Nat.add_sub_cancel];simpa[nR]using h2
theorem LO.next {x:LG α} (h:LO pv T e b n p K N sz tv g m Rl Rs x) (ho:eN T g) (hg:g x.s=true) {y:α} {s2:PS} (hm:m x.s=(y,s2)) (bD:Ok T e s2) (cJ:x.s.i<s2.i) {H1 A' A'':List AO} {M id ver:Nat} {cs:List AV} (ar:H1.length=n) (dV:Kp b x.H H1) (fB:Fr b H1 M) (hM:nR ((many g m (x.j-1) s2).1.map tv)<=M)
  (cE:Env b n (H1.set p (pv s2)++A'') ((x.acc.map tv).flatten++tv y) (x.rs.flatten++cs)) (gQ:cs.length=sz)
  (k1:(H1.set p (pv s2)++A')[id]?=some (.rows sz ver (x.rs++[cs]))) (k2:n<=id/\id-n∉N) (k3:∀(k:Nat) (o:AO),k∉N->A'[k]?=some o->A''[k]?=some o) (k4:∀k∈N,k<A''.length):
  LO pv T e b n p K N sz tv g m Rl Rs ⟨x.j-1,s2,x.acc++[y],x.rs++[cs],.gs id ver 0 (x.rs.length+1),H1,A''⟩:=by
 obtain⟨j',hj⟩:=h.succ ho hg;have h1:=h.rl;have h2:=h.re;rw[hj,many,if_pos hg,hm]at h1 h2;have FJ:=h.ln;have hi:=h.ok.1;refine⟨bD,by simp;omega,fun hc=>?_,by rw[hj,Nat.add_sub_cancel];simpa using h1,by rw[hj,Nat.add_sub_cancel];exact h2,ar,h.kp.trans dV,⟨M,fB,hM⟩,?_,by simp[h.len],?_,.inr ⟨id,ver,by simp,?_⟩,(fun jm v o m' e=>by cases e;exact k2),k4⟩
 ·have:=h.fu (ho x.s hg).1;simp only;omega
 ·simpa using cE
 ·intro r hr
  rcases List.mem_append.1 hr with hr|hr
  ·exact h.sz1 r hr
  ·simp at hr;rw[hr];exact gQ
 ·obtain⟨q,hq⟩:=Nat.le.dest k2.1
  subst hq;rw[az ar]at k1;simp only;rw[az ar];exact k3 _ _ (by have:=k2.2;rwa[Nat.add_sub_cancel_left]at this) k1
theorem LO.app {x:LG α} {J:St->Prop} {L T':En} {d:MD} {bytes:Nat} {c:AO} {H1 B:List AO} {y:List AV} (h:LO pv T e b n p K N sz tv g m Rl Rs x) (ar:H1.length=n) (hB:∀(k:Nat) (o:AO),x.A[k]?=some o->B[k]?=some o) (aO:T.length<=1073741825) (RR:bytes<=1000)
  (k:∀id ver A',(H1.set p c++A')[id]?=some (.rows sz ver (x.rs++[y]))->(n<=id/\id-n∉N)->(∀k:Nat,k∈N->A'[k]?=x.A[k]?)->J (St.put ⟨L,T',H1.set p c++A'⟩ d (.gs id ver 0 (x.rs.length+1)))):
  mu sz bytes x.a [y] d J ⟨L,T',H1.set p c++B⟩:=by
 have FJ:=h.ln;have hi:=h.ok.1;have hl:=h.len
 have RS:∀k∈N,k<B.length:=fun k hk=>by
  have RT:=h.nm k hk;exact bj (hB k x.A[k] (by simp[RT]))
 have B8:∀id v o m,x.a=.gs id v o m->H1.length<=id/\id-H1.length∉N:=by rw[ar];exact h.ids
 have kU:jr (H1.set p c++B) x.a sz x.rs:=by
  rcases h.own with h1|⟨id,ver,e1,h1⟩
  ·exact .inl h1
  ·obtain⟨q1,q2⟩:=h.ids _ _ _ _ e1
   obtain⟨q,rfl⟩:=Nat.le.dest q1;rw[az h.hn]at h1;exact .inr ⟨_,ver,e1,by rw[az ar];exact hB _ _ h1⟩
 refine Ke (rs:=x.rs) (ys:=[y]) kU RS B8 (by rw[hl];simp;exact Nat.le_trans (Nat.mul_le_mul (show x.acc.length+1<=1073741827 by omega) RR) (by decide)) (by rw[hl];simp;omega) ?_;intro id ver A' k1 k2 k3;rw[ar]at k2;refine k id ver A' k1 k2 (fun j hj=>?_);rw[k3 j hj];have me:=h.nm j hj;rw[hB j x.A[j] (by simp[me])];simp[me]
theorem LO.fin {x:LG α} (h:LO pv T e b n p K N sz tv g m Rl Rs x) (hp:p<b) (hb:b<=n) (h0:x.acc≠[]) (SF:∀a,(tv a).length=sz) {c:AO} {B:List AO} (hk:∀(k:Nat) (o:AO),k∉N->x.A[k]?=some o->B[k]?=some o):∃u,Env b u (x.H.set p c++B) [.s sz (x.acc.map tv)] [x.a]:=by
 rcases h.own with⟨h1,h2⟩|⟨id,ver,e1,h1⟩
 ·have:=h.len;rw[h2]at this;exact(h0 (List.length_eq_zero_iff.1 this.symm)).elim
 ·obtain⟨q1,q2⟩:=h.ids _ _ _ _ e1
  obtain⟨q,rfl⟩:=Nat.le.dest q1;rw[Nat.add_sub_cancel_left]at q2;rw[az h.hn]at h1;rw[e1];exact⟨_,(h.env.base h.hn hp).node (by rw[az h.hn];exact hk _ _ q2 h1) (by omega) (by omega) (by rw[h.len];simp) (by intro r hr;obtain⟨a,_,rfl⟩:=List.mem_map.1 hr;exact SF a) h.sz1 (by simpa using h0)⟩
theorem LO.shape {x:LG α} (h:LO pv T e b n p K N sz tv g m Rl Rs x) (h0:x.acc≠[]):∃id ver,x.a=.gs id ver 0 x.rs.length:=by
 rcases h.own with⟨h1,h2⟩|⟨id,ver,e1,h1⟩
 ·have:=h.len;rw[h2]at this;exact(h0 (List.length_eq_zero_iff.1 this.symm)).elim
 ·exact⟨id,ver,e1⟩
theorem LO.one {x:LG α} (h:LO pv T e b n p K N sz tv g m Rl Rs x) {y:α} (h0:x.acc=[y]):∃cs q ver,x.rs=[cs]/\x.a=.gs (n+q) ver 0 1/\q∉N/\x.A[q]?=some (.rows sz ver [cs])/\cs.length=sz/\Env b n (x.H.set p (pv x.s)++x.A) (tv y) cs:=by
 have hl:=h.len;rw[h0]at hl;obtain⟨cs,gQ⟩:=List.length_eq_one_iff.1 hl;rcases h.own with⟨h1,h2⟩|⟨id,ver,e1,h1⟩
 ·rw[h2]at hl;cases hl
 ·obtain⟨q1,q2⟩:=h.ids _ _ _ _ e1
  obtain⟨q,rfl⟩:=Nat.le.dest q1;rw[Nat.add_sub_cancel_left]at q2;rw[az h.hn,gQ]at h1;have hE:=h.env;rw[h0,gQ]at hE;exact⟨cs,q,ver,gQ,by rw[e1,gQ];rfl,q2,h1,h.sz1 cs (by rw[gQ];simp),by simpa using hE⟩
end
theorem agB {r:List AV} (h:r.length=4):∃a b c d,r=[a,b,c,d]:=by match r,h with|[a,b,c,d],_=>exact⟨_,_,_,_,rfl⟩
theorem agC {r:List AV} (h:r.length=5):∃a b c d e,r=[a,b,c,d,e]:=by match r,h with|[a,b,c,d,e],_=>exact⟨_,_,_,_,_,rfl⟩
theorem SG {r:List AV} (h:r.length=7):∃a b c d e f g,r=[a,b,c,d,e,f,g]:=by match r,h with|[a,b,c,d,e,f,g],_=>exact⟨_,_,_,_,_,_,_,rfl⟩
def iu (T:List Tok) (most e f:Nat) (xs:List AV) {α:Type} (m:PM α) (tv:α->List TV):Prop:=∀p,PX (db T most) T e f (.ptr p 0::xs) (fun _=>True) p m tv
theorem ig {T:List Tok} {most e f:Nat} {xs:List AV} {α:Type} {m:PM α} {tv:α->List TV}
  (h:∀(p:Nat) (K:List AO) (b n:Nat) (s:PS),K.length=n->p<b->b<=n->Ok T e s->Fr b K (nC (tv (m s).1))->aA Tryz.prog f (.ptr p 0::xs) (K.set p (db T most s)) (Res K b p (db T most (m s).2) (tv (m s).1))):iu T most e f xs m tv:=
 fun p=>zE (iA T most) (fun _ _ _ _=>trivial) fun K b n s hn hp hb hs _ hF=>h p K b n s hn hp hb hs hF
theorem jA (b u:Nat) (X:List AO) (k:Int) (nm:List UInt8) (un q:Int):Env b u X (ae.tv (.mk k nm un q [])) [iV k,sV nm,iV un,iV q,.p .nl]:=by
 rw[ae.tv,ae.mR];exact(((Env.nl1.pc _).pc _).pc _).pc _
theorem lF {b u:Nat} {X:List AO} {k:Int} {nm:List UInt8} {un q:Int} {l:List ae} {a:AV} (h:Env b u X [.s 5 (l.map ae.tv)] [a]):Env b u X (ae.tv (.mk k nm un q l)) [iV k,sV nm,iV un,iV q,a]:=by
 rw[ae.tv,ae.oG];exact(((h.pc _).pc _).pc _).pc _
theorem Env.sL {b u:Nat} {X:List AO} {ts:List TV} {ds cs:List AV} {k:Int} {nm:List UInt8} {un q:Int} {l:List ae} (h:Env b u X (ts++ae.tv (.mk k nm un q l)) (ds++cs)) (hl:ds.length=ts.length):∃c,cs=[iV k,sV nm,iV un,iV q,c]:=by
 obtain⟨ids,h1,_⟩:=h;obtain⟨c1,c2,i,j,e1,_,h3,h4⟩:=iX h1;obtain⟨rfl,rfl⟩:=List.append_inj e1 (by rw[h3.len];exact hl);rw[ae.tv]at h4;simp only[bI,ib]at h4;obtain⟨_,_,_,_,rfl,_,⟨rfl,_⟩,_,_,_,_,rfl,_,⟨rfl,_⟩,_,_,_,_,rfl,_,⟨rfl,_⟩,_,_,_,_,rfl,_,⟨rfl,_⟩,c,_,_,_,rfl,_,_,rfl,_⟩:=h4;exact⟨c,rfl⟩
theorem qe (k:Int) (nm:List UInt8) (un q:Int) (l:List ae):nC (ae.tv (.mk k nm un q l))=nK (l.map ae.tv):=by
 rw[ae.tv,ae.oG];simp[nC,nT]
section
variable {T:List Tok} {most e:Nat} (hT:bL T) (aO:T.length<=1073741825)
include hT aO
theorem SH {d:Nat} (hd:d<=1099511627776) {pat:PM ae} (hP:iu T most e 119 [iV (d+1:Nat)] pat ae.tv) (sP:ab T pat):iu T most e 192 [iV d] (p6 T T.length pat) ae.tv:=by
 refine ig fun p K b n s hn hp hb hs hF=>?_
 have bW:p<K.length:=by omega
 have od:wr .i64 ((d:Int)+1)=((d+1:Nat):Int):=bp _ (by omega);refine call192 (by simp) ?_;simp only[go_sem,simprocAttr,az hn,aF hn,aE hn,aG hn,hn,hn,Kz,Su];refine U (lE K _ p s bW hs) ?_;simp only[go_sem,simprocAttr,az hn,aF hn,aE hn,aG hn,hn,hn,Tok.cells];refine U (ir hT aO [[40]] (by decide) bW hs (by omega) (fun c=>by rw[az hn];rfl)) ?_;simp only[go_sem,simprocAttr,az hn,aF hn,aE hn,aG hn,hn,hn,gh];have bG:=hs.step (aK hT [40]);have e0:p6 T T.length pat s=bm (aL T [41]) (aT (.mk 5 [] 0 (aJ T s).p [])) (eJ (fun s=>!decide (s.c=0)) (aT (.mk 5 [] 0 (aJ T s).p [])) (aH pat fun a=>aH (many (aL T [44]) (bT pat) T.length) fun l=>cz (aX T [41]) (aT (if l=[]then a else .mk 6 [] 0 (aJ T s).p (a::l))))) (aX T [40] s):=rfl;rw[e0]at hF⊢;generalize (aJ T s).p=tp at *;generalize aX T [40] s=s1 at *;refine U (iq aO [41] K _ p s1 bW bG) ?_;unfold dm;cases jQ:aL T [41] s1;rotate_left
 ·rw[aS jQ]
  simp only[go_sem,simprocAttr,az hn,aF hn,aE hn,aG hn,hn,hn,jQ];exact⟨_,K,_,0,rfl,rfl,Kp.rfl,jA _ _ _ _ _ _ _⟩
 rw[aZ jQ]at hF⊢;simp only[go_sem,simprocAttr,az hn,aF hn,aE hn,aG hn,hn,hn,jQ];refine U (kg K _ p s1 bW bG) ?_;cases hc:decide (s1.c=0)
 ·rw[fv (by simp[hc])]
  simp only[go_sem,simprocAttr,az hn,aF hn,aE hn,aG hn,hn,hn,hc,Bool.not_false,Bool.not_true];exact⟨_,K,_,0,rfl,rfl,Kp.rfl,jA _ _ _ _ _ _ _⟩
 rw[ji (by simp[hc])]at hF⊢;simp only[go_sem,simprocAttr,az hn,aF hn,aE hn,aG hn,hn,hn,hc,od,Bool.not_false,Bool.not_true];rcases hq:pat s1 with⟨⟨k1,n1,u1,q1,l1⟩,s2⟩
 have bD:=bG.run sP;rw[hq]at bD;rcases hR:many (aL T [44]) (bT pat) T.length s2 with⟨Rl,Rs⟩
 have e1:(aH pat fun a=>aH (many (aL T [44]) (bT pat) T.length) fun l=>cz (aX T [41]) (aT (if l=[]then a else .mk 6 [] 0 tp (a::l)))) s1=(if Rl=[]then .mk k1 n1 u1 q1 l1 else .mk 6 [] 0 tp (.mk k1 n1 u1 q1 l1::Rl),aX T [41] Rs):=by rw[aP,hq,aP,hR];rfl
 rw[e1]at hF⊢
 have pV:nC (ae.tv (.mk k1 n1 u1 q1 l1))+nR (Rl.map ae.tv)<=nC (ae.tv (if Rl=[]then .mk k1 n1 u1 q1 l1 else .mk 6 [] 0 tp (.mk k1 n1 u1 q1 l1::Rl))):=by
  split
  ·rename_i h0;subst h0;simp[nR]
  ·rw[qe 6,List.map_cons,nK];omega
 generalize XQ:nC (ae.tv (if Rl=[]then .mk k1 n1 u1 q1 l1 else .mk 6 [] 0 tp (.mk k1 n1 u1 q1 l1::Rl)))=NN at hF pV;obtain⟨H1,cs1,ar,dV,fB,lI,_,cE,cb⟩:=(hP p).use ae.wf hq hn hp hb bG hF (by omega);refine U (cb _ trivial) ?_;have cV:=fun A A'=>cE [] [] A A' (Env.nil _ _ _)
 obtain⟨c1,rfl⟩:=(cV [] []).sL rfl;simp only[go_sem,simprocAttr,az ar,aF ar,aE ar,aG ar,ar,ar,Nat.add_zero];have gd:∀(c:AO) (A:List AO),(H1.set p c++A)[n+3]?=A[3]?:=fun c A=>az ar A p c 3
 refine⟨LG ae,[0,1,4,5,6],fun x st=>(LO (db T most) T e b n p K [0,1] 5 ae.tv (aL T [44]) (bT pat) (.mk k1 n1 u1 q1 l1::Rl) Rs x/\x.A[0]?=some (.var [iV 0,sV [],iV 0,iV 0,.p .nl])/\x.A[1]?=some (.var [iV 5,sV [],iV 0,iV tp,.p .nl]))/\
   st=⟨[(0,.ptr p 0),(1,iV d),(4,.ptr n 0),(5,.ptr (n+1) 0),(6,x.a)],[],x.H.set p (db T most x.s)++x.A⟩,fun x=>T.length-x.s.i,
  ⟨⟨T.length,s2,[.mk k1 n1 u1 q1 l1],[[iV k1,sV n1,iV u1,iV q1,c1]],.gs (n+3) 0 0 1,H1,[.var [iV 0,sV [],iV 0,iV 0,.p .nl],.var [iV 5,sV [],iV 0,iV tp,.p .nl],.rows 1 0 [[sV [40]]],.rows 5 0 [[iV k1,sV n1,iV u1,iV q1,c1]]]⟩,?_⟩,?_⟩
 ·refine⟨⟨LO.nd bD hR ar dV fB (by omega) (cV [] _) rfl rfl (by decide) (by simp),rfl,rfl⟩,?_⟩
  simp only[go_sem,simprocAttr,az ar,aF ar,aE ar,aG ar,ar,ar]
 ·rintro x _ ⟨⟨hL,i0,i1⟩,rfl⟩
  have kh:p<x.H.length:=by rw[hL.hn];omega
  simp only[go_sem,simprocAttr,az hL.hn,aF hL.hn,aE hL.hn,aG hL.hn,hL.hn,hL.hn];refine U (iq aO [44] x.H _ p x.s kh hL.ok) ?_;unfold dm;cases hg:aL T [44] x.s
  ·obtain⟨ha,hx⟩:=hL.stop hg
   simp only[go_sem,simprocAttr,az hL.hn,aF hL.hn,aE hL.hn,aG hL.hn,hL.hn,hL.hn,hg];refine U (ir hT aO [[41]] (by decide) kh hL.ok (by omega) (fun c=>by rw[vW hL.hn];rfl)) ?_;simp only[go_sem,simprocAttr,az hL.hn,aF hL.hn,aE hL.hn,aG hL.hn,hL.hn,hL.hn,gh];subst hx;have mS:∀B,(x.A++B)[0]?=some (.var [iV 0,sV [],iV 0,iV 0,.p .nl]):=fun B=>ay i0 B
   have wZ:∀B,(x.A++B)[1]?=some (.var [iV 5,sV [],iV 0,iV tp,.p .nl]):=fun B=>ay i1 B
   have hz:∀B o,((x.A++B).set 0 o)[0]?=some o:=fun B o=>bg (mS B)
   have BO:∀B o,((x.A++B).set 1 o)[1]?=some o:=fun B o=>bg (wZ B)
   by_cases qI:Rl=[]
   ·subst qI
    obtain⟨cs,q,ver,r1,r2,r3,r4,r5,r6⟩:=hL.one ha;obtain⟨d1,d2,d3,d4,d5,rfl⟩:=agC r5;have r4':∀B,(x.A++B)[q]?=some (.rows 5 ver [[d1,d2,d3,d4,d5]]):=fun B=>ay r4 B
    rw[r2,if_pos rfl];simp only[go_sem,simprocAttr,az hL.hn,aF hL.hn,aE hL.hn,aG hL.hn,hL.hn,hL.hn,r4',mS,hz,Nat.add_zero];intro _;exact⟨_,x.H,_,n,rfl,rfl,hL.kp,r6.base hL.hn hp⟩
   ·have KL:∀(o1 o2:AO) (B:List AO) (k:Nat) (o:AO),k∉[0,1]->x.A[k]?=some o->(((x.A++B).set 1 o1).set 0 o2)[k]?=some o:=fun o1 o2 B k o hk ho=>by
     simp at hk;rw[List.getElem?_set_ne (by omega),List.getElem?_set_ne (by omega)];exact ay ho _
    obtain⟨u,hE⟩:=hL.fin hp hb (by rw[ha];simp) ae.cm (c:=db T most (aX T [41] x.s)) (KL (.var [iV 6,sV [],iV 0,iV tp,x.a]) (.var [iV 6,sV [],iV 0,iV tp,x.a]) [.rows 1 0 [[sV [41]]]]);obtain⟨id,ver,ye⟩:=hL.shape (by rw[ha];simp);have hlen:x.rs.length=Rl.length+1:=by rw[hL.len,ha];rfl
    have d1:decide (((Rl.length+1:Nat):Int)=1)=false:=by
     have:Rl.length≠0:=fun h=>qI (List.length_eq_zero_iff.1 h)
     simp;omega
    rw[hlen]at ye;rw[if_neg qI];rw[ye]at hE⊢;have h00:∀B o o',(((x.A++B).set 1 o).set 0 o')[0]?=some o':=fun B o o'=>bg (aU (mS B) (by decide))
    have KM:∀B o,((x.A++B).set 1 o)[0]?=some (.var [iV 0,sV [],iV 0,iV 0,.p .nl]):=fun B o=>aU (mS B) (by decide)
    simp only[go_sem,simprocAttr,az hL.hn,aF hL.hn,aE hL.hn,aG hL.hn,hL.hn,hL.hn,d1,wZ,mS,BO,h00,KM,List.set_set];intro _;rw[ha]at hE;exact⟨_,x.H,_,u,rfl,rfl,hL.kp,lF hE⟩
  ·obtain⟨j,hj⟩:=hL.succ (aB T _) hg
   have dJ:=hL.ok.aI hT (cH hg).2;have eL:=dJ.run sP;have cJ:=(gU.aI hT sP hL.ok.1 (cH hg).2).1;rcases fF:pat (aI x.s)with⟨⟨k3,n3,u3,q3,l3⟩,s3⟩
   rw[fF]at eL cJ;obtain⟨M,oH,hM⟩:=hL.room (aB T _) hg (y:=.mk k3 n3 u3 q3 l3) (s2:=s3) fF;obtain⟨H2,cs2,bh,oe,og,zF,_,ix,call2⟩:=(hP p).use ae.wf fF hL.hn hp hb dJ oH (by omega);have mm:=fun A'=>ix _ _ x.A A' (hL.env.base hL.hn hp)
   obtain⟨c2,rfl⟩:=(mm []).sL (hL.env.len);simp only[go_sem,simprocAttr,az hL.hn,aF hL.hn,aE hL.hn,aG hL.hn,hL.hn,hL.hn,hg,od];refine U (call2 _ trivial) ?_;simp only[go_sem,simprocAttr,az bh,aF bh,aE bh,aG bh,bh,bh,FV bh,vW bh,Nat.add_zero];refine⟨by intro r hr;simp at hr;subst hr;rfl,?_⟩;refine hL.app bh (fun k o h=>ay h _) aO (by decide) ?_;intro id ver A' m1 m2 m3;have j0:=(m3 0 (by decide)).trans i0;have j1:=(m3 1 (by decide)).trans i1;simp only[go_sem,simprocAttr,az bh,aF bh,aE bh,aG bh,bh,bh];exact⟨⟨x.j-1,s3,x.acc++[.mk k3 n3 u3 q3 l3],x.rs++[[iV k3,sV n3,iV u3,iV q3,c2]],.gs id ver 0 (x.rs.length+1),H2,A'⟩,⟨⟨hL.next (aB T _) hg fF eL cJ bh oe og (by omega) (mm A') rfl m1 m2 (fun k o _ h=>h) (by intro k hk;simp at hk;rcases hk with rfl|rfl;exact bj j0;exact bj j1),j0,j1⟩,rfl⟩,by have h1:x.s.i<s3.i:=cJ;have:=hL.ok.1;simp only;omega⟩
end
theorem vC (H:List AO) (a b x:AO):bP (H++[a,b,.dead]) (H++[a,b,x]):=fun id o h hd=>by
 rcases Nat.lt_or_ge id H.length with hi|hi
 ·rw[List.getElem?_append_left hi]at h⊢;exact h
 ·rw[List.getElem?_append_right hi]at h⊢
  match id-H.length,h with
  |0,h=>exact h
  |1,h=>exact h
  |2,h=>simp at h;exact(hd h.symm).elim
  |k+3,h=>simp at h
theorem mn {T:List Tok} {most p:Nat} {H:List AO} (hp:p<H.length) (A:List AO) (s:PS):(H.set p (db T most s)++A)[p]?=some (.var [sY T,iV s.i,iV most,iV s.d,iV s.c,iV s.ps]):=qp hp A _
theorem di (T:List Tok) (most:Nat) (s:PS):AO.var [sY T,iV ((s.i+1:Nat):Int),iV most,iV s.d,iV s.c,iV s.ps]=db T most (aI s):=rfl
theorem Env.node1 {b u id sz ver:Nat} {X:List AO} {t:List TV} {cs:List AV} (h:Env b u X t cs) (hi:X[id]?=some (.rows sz ver [cs])) (hu:u<=id) (hb:b<=id) (h1:t.length=sz):Env b (id+1) X [.s sz [t]] [.gs id ver 0 1]:=
 Env.node (rows:=[t]) (rs:=[cs]) (by simpa using h) hi hu hb rfl (by simpa using h1) (by simpa using h.len.trans h1) (by simp)
section
variable {T:List Tok} {most e:Nat} (hT:bL T) (aO:T.length<=1073741825)
include hT aO
theorem XR {d:Nat} (hd:d<=1099511627776) {pat:PM ae} (hP:iu T most e 119 [iV (d+1:Nat)] pat ae.tv) (sP:ab T pat):iu T most e 161 [iV d] (fD T T.length pat) ae.tv:=by
 have hB:=SH hT aO hd hP sP;refine ig fun p K b n s hn hp hb hs hF=>?_
 have bW:p<K.length:=by omega
 have jC:=ws aO hs;refine call161 (by simp) ?_;simp only[go_sem,simprocAttr,az hn,aF hn,aE hn,aG hn,hn,hn,Ku,Sp];refine U (lE K _ p s bW hs) ?_;simp only[go_sem,simprocAttr,az hn,aF hn,aE hn,aG hn,hn,hn,Tok.cells];unfold fD at hF⊢;rw[bN]at hF⊢;generalize Cz:aJ T s=t at *;obtain⟨tk,tt,tn,tp⟩:=t;simp only at hF⊢;refine U (ur [95] K _ p s bW hs) ?_;cases c0:aL T [95] s;rotate_left
 ·rw[aS c0]
  simp only[go_sem,simprocAttr,az hn,aF hn,aE hn,aG hn,hn,hn,c0,mn bW,qq bW,jC,di];exact⟨_,K,_,0,rfl,rfl,Kp.rfl,jA _ _ _ _ _ _ _⟩
 rw[aZ c0]at hF⊢;simp only[go_sem,simprocAttr,az hn,aF hn,aE hn,aG hn,hn,hn,c0];refine U (iY 3 K _ p s bW hs) ?_;cases c1:bB T 3 s;rotate_left
 ·rw[aS c1]
  simp only[go_sem,simprocAttr,az hn,aF hn,aE hn,aG hn,hn,hn,c1,mn bW,qq bW,jC,di];refine⟨K.set p (db T most s)++[_,_,.dead],vC _ _ _ _,?_⟩;simp only[go_sem,simprocAttr,az hn,aF hn,aE hn,aG hn,hn,hn,mn bW,qq bW,jC,di];refine⟨vC _ _ _ _,?_⟩;exact⟨_,K,_,0,rfl,rfl,Kp.rfl,jA _ _ _ _ _ _ _⟩
 rw[aZ c1]at hF⊢;simp only[go_sem,simprocAttr,az hn,aF hn,aE hn,aG hn,hn,hn,c1];refine U (iY 1 K _ p s bW hs) ?_;cases c2:bB T 1 s;rotate_left
 ·rw[aS c2]
  simp only[go_sem,simprocAttr,az hn,aF hn,aE hn,aG hn,hn,hn,c2,mn bW,qq bW,jC,di];refine⟨K.set p (db T most s)++[_,_,.dead],vC _ _ _ _,?_⟩;simp only[go_sem,simprocAttr,az hn,aF hn,aE hn,aG hn,hn,hn,mn bW,qq bW,jC,di];refine⟨vC _ _ _ _,?_⟩;exact⟨_,K,_,0,rfl,rfl,Kp.rfl,jA _ _ _ _ _ _ _⟩
 rw[aZ c2]at hF⊢;simp only[go_sem,simprocAttr,az hn,aF hn,aE hn,aG hn,hn,hn,c2];refine U (ur [116,114,117,101] K _ p s bW hs) ?_;cases c3:aL T [116,114,117,101] s;rotate_left
 ·rw[aS c3]
  simp only[go_sem,simprocAttr,az hn,aF hn,aE hn,aG hn,hn,hn,c3,mn bW,qq bW,jC,di];exact⟨_,K,_,0,rfl,rfl,Kp.rfl,jA _ _ _ _ _ _ _⟩
 rw[aZ c3]at hF⊢;simp only[go_sem,simprocAttr,az hn,aF hn,aE hn,aG hn,hn,hn,c3];refine U (ur [102,97,108,115,101] K _ p s bW hs) ?_;cases c4:aL T [102,97,108,115,101] s;rotate_left
 ·rw[aS c4]
  simp only[go_sem,simprocAttr,az hn,aF hn,aE hn,aG hn,hn,hn,c4,mn bW,qq bW,jC,di];exact⟨_,K,_,0,rfl,rfl,Kp.rfl,jA _ _ _ _ _ _ _⟩
 rw[aZ c4]at hF⊢;simp only[go_sem,simprocAttr,az hn,aF hn,aE hn,aG hn,hn,hn,c4];refine U (iY 4 K _ p s bW hs) ?_;cases c5:bB T 4 s;rotate_left
 ·rw[aS c5]
  simp only[go_sem,simprocAttr,az hn,aF hn,aE hn,aG hn,hn,hn,c5,mn bW,qq bW,jC,di];refine⟨K.set p (db T most s)++[_,_,.dead],vC _ _ _ _,?_⟩;simp only[go_sem,simprocAttr,az hn,aF hn,aE hn,aG hn,hn,hn,mn bW,qq bW,jC,di];refine⟨vC _ _ _ _,?_⟩;exact⟨_,K,_,0,rfl,rfl,Kp.rfl,jA _ _ _ _ _ _ _⟩
 rw[aZ c5]at hF⊢;simp only[go_sem,simprocAttr,az hn,aF hn,aE hn,aG hn,hn,hn,c5];rcases hq:p6 T T.length pat s with⟨⟨k1,n1,u1,q1,l1⟩,s1⟩
 rw[hq]at hF;obtain⟨H1,cs1,ar,dV,fB,lI,_,cE,cb⟩:=(hB p).use ae.wf hq hn hp hb hs hF (Nat.le_refl _);refine U (cb _ trivial) ?_;have cV:=fun A A'=>cE [] [] A A' (Env.nil _ _ _)
 obtain⟨c1,rfl⟩:=(cV [] []).sL rfl;simp only[go_sem,simprocAttr,az ar,aF ar,aE ar,aG ar,ar,ar];exact⟨_,H1,_,n,rfl,rfl,dV,cV [] _⟩
theorem lD {pat:PM ae} (sP:ab T pat):ab T (fD T T.length pat):=Pg.lD hT sP
theorem CA {d:Nat} {s:PS} (hs:Ok T e s):Ok T e (cT T most d s):=hs.step (xR T most d)
theorem uu {d:Nat} {s:PS} (h:(cT T most d s).c=0):d<=most:=by
 rcases Nat.lt_or_ge most d with hd|hd
 ·exfalso
  unfold cT at h;simp only[if_pos hd]at h;by_cases h0:s.c=0
  ·rw[iG h0,if_neg (show ¬((12:Int)=0)by decide)]at h;exact absurd h (show ¬((12:Int)=0)by decide)
  ·rw[rb h0,if_neg h0]at h;exact h0 h
 ·exact hd
theorem adw {d:Nat} (hd:d<=1099511627776) {pat:PM ae} (hP:d<=most->iu T most e 119 [iV (d+1:Nat)] pat ae.tv) (sP:ab T pat):iu T most e 119 [iV d] (Cb T T.length most pat d) ae.tv:=by
 have sA:=lD hT aO sP;refine ig fun p K b n s hn hp hb hs hF=>?_
 have bW:p<K.length:=by omega
 refine call119 (by simp) ?_;simp only[go_sem,simprocAttr,az hn,aF hn,aE hn,aG hn,hn,hn,Kq,Sl];refine U (Cx d K _ p s bW hs) ?_;have bG:=CA (most:=most) (d:=d) hT aO hs;unfold Cb kO at hF⊢;cases hc:decide ((cT T most d s).c=0)
 ·rw[if_neg (of_decide_eq_false hc)]
  simp only[go_sem,simprocAttr,az hn,aF hn,aE hn,aG hn,hn,hn,hc,Bool.not_false,Bool.not_true];exact⟨_,K,_,0,rfl,rfl,Kp.rfl,jA _ _ _ _ _ _ _⟩
 have AT:=of_decide_eq_true hc;have hA:=XR hT aO hd (hP (uu hT aO AT)) sP;rw[if_pos AT]at hF⊢;simp only[go_sem,simprocAttr,az hn,aF hn,aE hn,aG hn,hn,hn,hc,Bool.not_false,Bool.not_true];generalize cT T most d s=s1 at *;refine U (lE K _ p s1 bW bG) ?_;simp only[go_sem,simprocAttr,az hn,aF hn,aE hn,aG hn,hn,hn,Tok.cells];rw[bN]at hF⊢;have jC:=ws aO bG;refine U (iY 4 K _ p s1 bW bG) ?_;cases c4:bB T 4 s1
 ·rw[aZ c4]at hF⊢
  simp only[go_sem,simprocAttr,az hn,aF hn,aE hn,aG hn,hn,hn,c4,Bool.not_false,Bool.not_true];rcases hq:fD T T.length pat s1 with⟨⟨k1,n1,u1,q1,l1⟩,s2⟩
  rw[hq]at hF;obtain⟨H1,cs1,ar,dV,fB,lI,_,cE,cb⟩:=(hA p).use ae.wf hq hn hp hb bG hF (Nat.le_refl _);refine U (cb _ trivial) ?_;have cV:=fun A A'=>cE [] [] A A' (Env.nil _ _ _)
  obtain⟨c1,rfl⟩:=(cV [] []).sL rfl;simp only[go_sem,simprocAttr,az ar,aF ar,aE ar,aG ar,ar,ar];exact⟨_,H1,_,n,rfl,rfl,dV,cV [] _⟩
 rw[aS c4]at hF⊢;have bD:=bG.aI hT (show(aJ T s1).k≠8 by have:=(qF c4).2;omega);generalize (aJ T s1).t=tt at *;generalize (aJ T s1).p=tp at *;simp only[go_sem,simprocAttr,az hn,aF hn,aE hn,aG hn,hn,hn,c4,Bool.not_false,Bool.not_true,mn bW,qq bW,jC,di];have yf:eg T (aI s1)=(bB T 3 (aI s1)||bB T 1 (aI s1)||bB T 4 (aI s1)||aL T [95] (aI s1)||aL T [116,114,117,101] (aI s1)||aL T [102,97,108,115,101] (aI s1)||aL T [40] (aI s1)):=rfl;refine U (iY 3 K _ p (aI s1) bW bD) ?_;cases t0:bB T 3 (aI s1);rotate_left
 ·have ba:eg T (aI s1)=true:=by rw[yf];simp[t0]
  rw[fv ba]at hF⊢;rcases hq:fD T T.length pat (aI s1)with⟨⟨k1,n1,u1,q1,l1⟩,s2⟩
  have e1:aH (fD T T.length pat) (fun a=>aT (ae.mk 7 tt 0 tp [a])) (aI s1)=(.mk 7 tt 0 tp [.mk k1 n1 u1 q1 l1],s2):=by rw[aP,hq];rfl
  rw[e1]at hF⊢;simp only[go_sem,simprocAttr,az hn,aF hn,aE hn,aG hn,hn,hn,t0];obtain⟨H1,cs1,ar,dV,fB,lI,_,cE,cb⟩:=(hA p).use ae.wf hq hn hp hb bD hF (by rw[qe 7,List.map_cons,nK];omega);refine U (cb _ trivial) ?_;have cV:=fun A A'=>cE [] [] A A' (Env.nil _ _ _)
  obtain⟨c1,rfl⟩:=(cV [] []).sL rfl;simp only[go_sem,simprocAttr,az ar,aF ar,aE ar,aG ar,ar,ar,Nat.add_zero];exact⟨_,H1,_,_,rfl,rfl,dV,lF ((cV [] _).node1 (by rw[az ar];rfl) (by omega) (by omega) (ae.cm _))⟩
 simp only[go_sem,simprocAttr,az hn,aF hn,aE hn,aG hn,hn,hn,t0];refine U (iY 1 K _ p (aI s1) bW bD) ?_;cases t1:bB T 1 (aI s1);rotate_left
 ·have ba:eg T (aI s1)=true:=by rw[yf];simp[t1]
  rw[fv ba]at hF⊢;rcases hq:fD T T.length pat (aI s1)with⟨⟨k1,n1,u1,q1,l1⟩,s2⟩
  have e1:aH (fD T T.length pat) (fun a=>aT (ae.mk 7 tt 0 tp [a])) (aI s1)=(.mk 7 tt 0 tp [.mk k1 n1 u1 q1 l1],s2):=by rw[aP,hq];rfl
  rw[e1]at hF⊢;simp only[go_sem,simprocAttr,az hn,aF hn,aE hn,aG hn,hn,hn,t1];obtain⟨H1,cs1,ar,dV,fB,lI,_,cE,cb⟩:=(hA p).use ae.wf hq hn hp hb bD hF (by rw[qe 7,List.map_cons,nK];omega);refine U (cb _ trivial) ?_;have cV:=fun A A'=>cE [] [] A A' (Env.nil _ _ _)
  obtain⟨c1,rfl⟩:=(cV [] []).sL rfl;simp only[go_sem,simprocAttr,az ar,aF ar,aE ar,aG ar,ar,ar,Nat.add_zero];exact⟨_,H1,_,_,rfl,rfl,dV,lF ((cV [] _).node1 (by rw[az ar];rfl) (by omega) (by omega) (ae.cm _))⟩
 simp only[go_sem,simprocAttr,az hn,aF hn,aE hn,aG hn,hn,hn,t1];refine U (iY 4 K _ p (aI s1) bW bD) ?_;cases t2:bB T 4 (aI s1);rotate_left
 ·have ba:eg T (aI s1)=true:=by rw[yf];simp[t2]
  rw[fv ba]at hF⊢;rcases hq:fD T T.length pat (aI s1)with⟨⟨k1,n1,u1,q1,l1⟩,s2⟩
  have e1:aH (fD T T.length pat) (fun a=>aT (ae.mk 7 tt 0 tp [a])) (aI s1)=(.mk 7 tt 0 tp [.mk k1 n1 u1 q1 l1],s2):=by rw[aP,hq];rfl
  rw[e1]at hF⊢;simp only[go_sem,simprocAttr,az hn,aF hn,aE hn,aG hn,hn,hn,t2];obtain⟨H1,cs1,ar,dV,fB,lI,_,cE,cb⟩:=(hA p).use ae.wf hq hn hp hb bD hF (by rw[qe 7,List.map_cons,nK];omega);refine U (cb _ trivial) ?_;have cV:=fun A A'=>cE [] [] A A' (Env.nil _ _ _)
  obtain⟨c1,rfl⟩:=(cV [] []).sL rfl;simp only[go_sem,simprocAttr,az ar,aF ar,aE ar,aG ar,ar,ar,Nat.add_zero];exact⟨_,H1,_,_,rfl,rfl,dV,lF ((cV [] _).node1 (by rw[az ar];rfl) (by omega) (by omega) (ae.cm _))⟩
 simp only[go_sem,simprocAttr,az hn,aF hn,aE hn,aG hn,hn,hn,t2];refine U (ur [95] K _ p (aI s1) bW bD) ?_;cases t3:aL T [95] (aI s1);rotate_left
 ·have ba:eg T (aI s1)=true:=by rw[yf];simp[t3]
  rw[fv ba]at hF⊢;rcases hq:fD T T.length pat (aI s1)with⟨⟨k1,n1,u1,q1,l1⟩,s2⟩
  have e1:aH (fD T T.length pat) (fun a=>aT (ae.mk 7 tt 0 tp [a])) (aI s1)=(.mk 7 tt 0 tp [.mk k1 n1 u1 q1 l1],s2):=by rw[aP,hq];rfl
  rw[e1]at hF⊢;simp only[go_sem,simprocAttr,az hn,aF hn,aE hn,aG hn,hn,hn,t3];obtain⟨H1,cs1,ar,dV,fB,lI,_,cE,cb⟩:=(hA p).use ae.wf hq hn hp hb bD hF (by rw[qe 7,List.map_cons,nK];omega);refine U (cb _ trivial) ?_;have cV:=fun A A'=>cE [] [] A A' (Env.nil _ _ _)
  obtain⟨c1,rfl⟩:=(cV [] []).sL rfl;simp only[go_sem,simprocAttr,az ar,aF ar,aE ar,aG ar,ar,ar,Nat.add_zero];exact⟨_,H1,_,_,rfl,rfl,dV,lF ((cV [] _).node1 (by rw[az ar];rfl) (by omega) (by omega) (ae.cm _))⟩
 simp only[go_sem,simprocAttr,az hn,aF hn,aE hn,aG hn,hn,hn,t3];refine U (ur [116,114,117,101] K _ p (aI s1) bW bD) ?_;cases t4:aL T [116,114,117,101] (aI s1);rotate_left
 ·have ba:eg T (aI s1)=true:=by rw[yf];simp[t4]
  rw[fv ba]at hF⊢;rcases hq:fD T T.length pat (aI s1)with⟨⟨k1,n1,u1,q1,l1⟩,s2⟩
  have e1:aH (fD T T.length pat) (fun a=>aT (ae.mk 7 tt 0 tp [a])) (aI s1)=(.mk 7 tt 0 tp [.mk k1 n1 u1 q1 l1],s2):=by rw[aP,hq];rfl
  rw[e1]at hF⊢;simp only[go_sem,simprocAttr,az hn,aF hn,aE hn,aG hn,hn,hn,t4];obtain⟨H1,cs1,ar,dV,fB,lI,_,cE,cb⟩:=(hA p).use ae.wf hq hn hp hb bD hF (by rw[qe 7,List.map_cons,nK];omega);refine U (cb _ trivial) ?_;have cV:=fun A A'=>cE [] [] A A' (Env.nil _ _ _)
  obtain⟨c1,rfl⟩:=(cV [] []).sL rfl;simp only[go_sem,simprocAttr,az ar,aF ar,aE ar,aG ar,ar,ar,Nat.add_zero];exact⟨_,H1,_,_,rfl,rfl,dV,lF ((cV [] _).node1 (by rw[az ar];rfl) (by omega) (by omega) (ae.cm _))⟩
 simp only[go_sem,simprocAttr,az hn,aF hn,aE hn,aG hn,hn,hn,t4];refine U (ur [102,97,108,115,101] K _ p (aI s1) bW bD) ?_;cases t5:aL T [102,97,108,115,101] (aI s1);rotate_left
 ·have ba:eg T (aI s1)=true:=by rw[yf];simp[t5]
  rw[fv ba]at hF⊢;rcases hq:fD T T.length pat (aI s1)with⟨⟨k1,n1,u1,q1,l1⟩,s2⟩
  have e1:aH (fD T T.length pat) (fun a=>aT (ae.mk 7 tt 0 tp [a])) (aI s1)=(.mk 7 tt 0 tp [.mk k1 n1 u1 q1 l1],s2):=by rw[aP,hq];rfl
  rw[e1]at hF⊢;simp only[go_sem,simprocAttr,az hn,aF hn,aE hn,aG hn,hn,hn,t5];obtain⟨H1,cs1,ar,dV,fB,lI,_,cE,cb⟩:=(hA p).use ae.wf hq hn hp hb bD hF (by rw[qe 7,List.map_cons,nK];omega);refine U (cb _ trivial) ?_;have cV:=fun A A'=>cE [] [] A A' (Env.nil _ _ _)
  obtain⟨c1,rfl⟩:=(cV [] []).sL rfl;simp only[go_sem,simprocAttr,az ar,aF ar,aE ar,aG ar,ar,ar,Nat.add_zero];exact⟨_,H1,_,_,rfl,rfl,dV,lF ((cV [] _).node1 (by rw[az ar];rfl) (by omega) (by omega) (ae.cm _))⟩
 simp only[go_sem,simprocAttr,az hn,aF hn,aE hn,aG hn,hn,hn,t5];refine U (ur [40] K _ p (aI s1) bW bD) ?_;cases t6:aL T [40] (aI s1);rotate_left
 ·have ba:eg T (aI s1)=true:=by rw[yf];simp[t6]
  rw[fv ba]at hF⊢;rcases hq:fD T T.length pat (aI s1)with⟨⟨k1,n1,u1,q1,l1⟩,s2⟩
  have e1:aH (fD T T.length pat) (fun a=>aT (ae.mk 7 tt 0 tp [a])) (aI s1)=(.mk 7 tt 0 tp [.mk k1 n1 u1 q1 l1],s2):=by rw[aP,hq];rfl
  rw[e1]at hF⊢;simp only[go_sem,simprocAttr,az hn,aF hn,aE hn,aG hn,hn,hn,t6];obtain⟨H1,cs1,ar,dV,fB,lI,_,cE,cb⟩:=(hA p).use ae.wf hq hn hp hb bD hF (by rw[qe 7,List.map_cons,nK];omega);refine U (cb _ trivial) ?_;have cV:=fun A A'=>cE [] [] A A' (Env.nil _ _ _)
  obtain⟨c1,rfl⟩:=(cV [] []).sL rfl;simp only[go_sem,simprocAttr,az ar,aF ar,aE ar,aG ar,ar,ar,Nat.add_zero];exact⟨_,H1,_,_,rfl,rfl,dV,lF ((cV [] _).node1 (by rw[az ar];rfl) (by omega) (by omega) (ae.cm _))⟩
 simp only[go_sem,simprocAttr,az hn,aF hn,aE hn,aG hn,hn,hn,t6];have ba:eg T (aI s1)=false:=by rw[yf];simp[t0,t1,t2,t3,t4,t5,t6]
 rw[ji ba]at hF⊢;exact⟨_,K,_,0,rfl,rfl,Kp.rfl,jA _ _ _ _ _ _ _⟩
theorem SI:∀k d,d+k=most+2->most<=1099511627774->0<k->iu T most e 119 [iV d] (p7 T T.length most k d) ae.tv
 |0,d,_,_,h=>absurd h (by omega)
 |k+1,d,h,hm,_=>adw hT aO (by omega) (fun hle=>SI k (d+1) (by omega) hm (by omega)) (mP hT most k (d+1))
end
theorem iN (b u:Nat) (X:List AO) (k:Int) (nm:List UInt8) (un:Int) (t:List UInt8) (q:Int):Env b u X (aa.tv (leaf k nm un t q)) [iV k,sV nm,iV un,sV t,iV q,.p .nl,.p .nl]:=by
 rw[leaf,aa.tv,aa.mR,aa.FT];exact((((Env.nl1.nl.pc _).pc _).pc _).pc _).pc _
theorem iO {b u:Nat} {X:List AO} {k:Int} {nm:List UInt8} {un:Int} {t:List UInt8} {q:Int} {l:List aa} {a:AV} (h:Env b u X [.s 7 (l.map aa.tv)] [a]):Env b u X (aa.tv (.mk k nm un t q l [])) [iV k,sV nm,iV un,sV t,iV q,a,.p .nl]:=by
 rw[aa.tv,aa.oG,aa.FT];exact((((h.nl.pc _).pc _).pc _).pc _).pc _
theorem Env.fH {b u:Nat} {X:List AO} {ts:List TV} {ds cs:List AV} {k:Int} {nm:List UInt8} {un:Int} {t:List UInt8} {q:Int} {l:List aa} {aM:List al} (h:Env b u X (ts++aa.tv (.mk k nm un t q l aM)) (ds++cs)) (hl:ds.length=ts.length):∃c d,cs=[iV k,sV nm,iV un,sV t,iV q,c,d]:=by
 obtain⟨ids,h1,_⟩:=h;obtain⟨c1,c2,i,j,e1,_,h3,h4⟩:=iX h1;obtain⟨rfl,rfl⟩:=List.append_inj e1 (by rw[h3.len];exact hl);have hlen:=h4.len;rw[aa.cm]at hlen;obtain⟨a0,a1,a2,a3,a4,a5,a6,rfl⟩:=SG hlen;rw[aa.tv]at h4;simp only[bI,ib]at h4;obtain⟨_,_,_,_,e0,_,⟨f0,_⟩,_,_,_,_,e1,_,⟨f1,_⟩,_,_,_,_,e2,_,⟨f2,_⟩,_,_,_,_,e3,_,⟨f3,_⟩,_,_,_,_,e4,_,⟨f4,_⟩,_⟩:=h4;subst f0 f1 f2 f3 f4;cases e0;cases e1;cases e2;cases e3;cases e4;exact⟨_,_,rfl⟩
theorem nh (k:Int) (nm:List UInt8) (un:Int) (t:List UInt8) (q:Int) (l:List aa) (aM:List al):nC (aa.tv (.mk k nm un t q l aM))=nK (l.map aa.tv)+nK (aM.map al.tv):=by
 rw[aa.tv,aa.oG,aa.ML];simp[nC,nT]
section
variable {T:List Tok} {most e:Nat} (hT:bL T) (aO:T.length<=1073741825)
include hT aO
theorem agD {d:Nat} (hd:d<=1099511627776) {ex:PM aa} (hP:iu T most e 55 [iV (d+1:Nat)] ex aa.tv) (sP:ab T ex):iu T most e 232 [iV d] (Fq T T.length ex) aa.tv:=by
 refine ig fun p K b n s hn hp hb hs hF=>?_
 have bW:p<K.length:=by omega
 have od:wr .i64 ((d:Int)+1)=((d+1:Nat):Int):=bp _ (by omega);refine call232 (by simp) ?_;simp only[go_sem,simprocAttr,az hn,aF hn,aE hn,aG hn,hn,hn,KJ,SE];refine U (lE K _ p s bW hs) ?_;simp only[go_sem,simprocAttr,az hn,aF hn,aE hn,aG hn,hn,hn,Tok.cells];refine U (ir hT aO [[40]] (by decide) bW hs (by omega) (fun c=>by rw[az hn];rfl)) ?_;simp only[go_sem,simprocAttr,az hn,aF hn,aE hn,aG hn,hn,hn,gh];have bG:=hs.step (aK hT [40]);have e0:Fq T T.length ex s=bm (aL T [41]) (aT (leaf 4 [] 0 [] (aJ T s).p)) (eJ (fun s=>!decide (s.c=0)) (aT (leaf 4 [] 0 [] (aJ T s).p)) (aH ex fun a=>aH (many (aL T [44]) (bT ex) T.length) fun l=>cz (aX T [41]) (aT (if l=[]then a else .mk 7 [] 0 [] (aJ T s).p (a::l) [])))) (aX T [40] s):=rfl;rw[e0]at hF⊢;generalize (aJ T s).p=tp at *;generalize aX T [40] s=s1 at *;refine U (iq aO [41] K _ p s1 bW bG) ?_;unfold dm;cases jQ:aL T [41] s1;rotate_left
 ·rw[aS jQ]
  simp only[go_sem,simprocAttr,az hn,aF hn,aE hn,aG hn,hn,hn,jQ];exact⟨_,K,_,0,rfl,rfl,Kp.rfl,iN _ _ _ _ _ _ _ _⟩
 rw[aZ jQ]at hF⊢;simp only[go_sem,simprocAttr,az hn,aF hn,aE hn,aG hn,hn,hn,jQ];refine U (kg K _ p s1 bW bG) ?_;cases hc:decide (s1.c=0)
 ·rw[fv (by simp[hc])]
  simp only[go_sem,simprocAttr,az hn,aF hn,aE hn,aG hn,hn,hn,hc,Bool.not_false,Bool.not_true];exact⟨_,K,_,0,rfl,rfl,Kp.rfl,iN _ _ _ _ _ _ _ _⟩
 rw[ji (by simp[hc])]at hF⊢;simp only[go_sem,simprocAttr,az hn,aF hn,aE hn,aG hn,hn,hn,hc,od,Bool.not_false,Bool.not_true];rcases hq:ex s1 with⟨⟨k1,n1,u1,t1,q1,l1,m1⟩,s2⟩
 have bD:=bG.run sP;rw[hq]at bD;rcases hR:many (aL T [44]) (bT ex) T.length s2 with⟨Rl,Rs⟩
 have e1:(aH ex fun a=>aH (many (aL T [44]) (bT ex) T.length) fun l=>cz (aX T [41]) (aT (if l=[]then a else .mk 7 [] 0 [] tp (a::l) []))) s1=(if Rl=[]then .mk k1 n1 u1 t1 q1 l1 m1 else .mk 7 [] 0 [] tp (.mk k1 n1 u1 t1 q1 l1 m1::Rl) [],aX T [41] Rs):=by rw[aP,hq,aP,hR];rfl
 rw[e1]at hF⊢
 have pV:nC (aa.tv (.mk k1 n1 u1 t1 q1 l1 m1))+nR (Rl.map aa.tv)<=nC (aa.tv (if Rl=[]then .mk k1 n1 u1 t1 q1 l1 m1 else .mk 7 [] 0 [] tp (.mk k1 n1 u1 t1 q1 l1 m1::Rl) [])):=by
  split
  ·rename_i h0;subst h0;simp[nR]
  ·rw[nh 7,List.map_cons,nK];omega
 generalize XQ:nC (aa.tv (if Rl=[]then .mk k1 n1 u1 t1 q1 l1 m1 else .mk 7 [] 0 [] tp (.mk k1 n1 u1 t1 q1 l1 m1::Rl) []))=NN at hF pV;obtain⟨H1,cs1,ar,dV,fB,lI,_,cE,cb⟩:=(hP p).use aa.wf hq hn hp hb bG hF (by omega);refine U (cb _ trivial) ?_;have cV:=fun A A'=>cE [] [] A A' (Env.nil _ _ _)
 obtain⟨c1,b1,rfl⟩:=(cV [] []).fH rfl;simp only[go_sem,simprocAttr,az ar,aF ar,aE ar,aG ar,ar,ar,Nat.add_zero];have gd:∀(c:AO) (A:List AO),(H1.set p c++A)[n+3]?=A[3]?:=fun c A=>az ar A p c 3
 refine⟨LG aa,[0,1,4,5,6],fun x st=>(LO (db T most) T e b n p K [0,1] 7 aa.tv (aL T [44]) (bT ex) (.mk k1 n1 u1 t1 q1 l1 m1::Rl) Rs x/\x.A[0]?=some (.var [iV 0,sV [],iV 0,sV [],iV 0,.p .nl,.p .nl])/\x.A[1]?=some (.var [iV 4,sV [],iV 0,sV [],iV tp,.p .nl,.p .nl]))/\
   st=⟨[(0,.ptr p 0),(1,iV d),(4,.ptr n 0),(5,.ptr (n+1) 0),(6,x.a)],[],x.H.set p (db T most x.s)++x.A⟩,fun x=>T.length-x.s.i,
  ⟨⟨T.length,s2,[.mk k1 n1 u1 t1 q1 l1 m1],[[iV k1,sV n1,iV u1,sV t1,iV q1,c1,b1]],.gs (n+3) 0 0 1,H1,[.var [iV 0,sV [],iV 0,sV [],iV 0,.p .nl,.p .nl],.var [iV 4,sV [],iV 0,sV [],iV tp,.p .nl,.p .nl],.rows 1 0 [[sV [40]]],.rows 7 0 [[iV k1,sV n1,iV u1,sV t1,iV q1,c1,b1]]]⟩,?_⟩,?_⟩
 ·refine⟨⟨LO.nd bD hR ar dV fB (by omega) (cV [] _) rfl rfl (by decide) (by simp),rfl,rfl⟩,?_⟩
  simp only[go_sem,simprocAttr,az ar,aF ar,aE ar,aG ar,ar,ar]
 ·rintro x _ ⟨⟨hL,i0,i1⟩,rfl⟩
  have kh:p<x.H.length:=by rw[hL.hn];omega
  simp only[go_sem,simprocAttr,az hL.hn,aF hL.hn,aE hL.hn,aG hL.hn,hL.hn,hL.hn];refine U (iq aO [44] x.H _ p x.s kh hL.ok) ?_;unfold dm;cases hg:aL T [44] x.s
  ·obtain⟨ha,hx⟩:=hL.stop hg
   simp only[go_sem,simprocAttr,az hL.hn,aF hL.hn,aE hL.hn,aG hL.hn,hL.hn,hL.hn,hg];refine U (ir hT aO [[41]] (by decide) kh hL.ok (by omega) (fun c=>by rw[vW hL.hn];rfl)) ?_;simp only[go_sem,simprocAttr,az hL.hn,aF hL.hn,aE hL.hn,aG hL.hn,hL.hn,hL.hn,gh];subst hx;have mS:∀B,(x.A++B)[0]?=some (.var [iV 0,sV [],iV 0,sV [],iV 0,.p .nl,.p .nl]):=fun B=>ay i0 B
   have wZ:∀B,(x.A++B)[1]?=some (.var [iV 4,sV [],iV 0,sV [],iV tp,.p .nl,.p .nl]):=fun B=>ay i1 B
   have hz:∀B o,((x.A++B).set 0 o)[0]?=some o:=fun B o=>bg (mS B)
   have BO:∀B o,((x.A++B).set 1 o)[1]?=some o:=fun B o=>bg (wZ B)
   by_cases qI:Rl=[]
   ·subst qI
    obtain⟨cs,q,ver,r1,r2,r3,r4,r5,r6⟩:=hL.one ha;obtain⟨d1,d2,d3,d4,d5,d6,d7,rfl⟩:=SG r5;have r4':∀B,(x.A++B)[q]?=some (.rows 7 ver [[d1,d2,d3,d4,d5,d6,d7]]):=fun B=>ay r4 B
    rw[r2,if_pos rfl];simp only[go_sem,simprocAttr,az hL.hn,aF hL.hn,aE hL.hn,aG hL.hn,hL.hn,hL.hn,r4',mS,hz,Nat.add_zero];intro _;exact⟨_,x.H,_,n,rfl,rfl,hL.kp,r6.base hL.hn hp⟩
   ·have KL:∀(o1 o2:AO) (B:List AO) (k:Nat) (o:AO),k∉[0,1]->x.A[k]?=some o->(((x.A++B).set 1 o1).set 0 o2)[k]?=some o:=fun o1 o2 B k o hk ho=>by
     simp at hk;rw[List.getElem?_set_ne (by omega),List.getElem?_set_ne (by omega)];exact ay ho _
    obtain⟨u,hE⟩:=hL.fin hp hb (by rw[ha];simp) aa.cm (c:=db T most (aX T [41] x.s)) (KL (.var [iV 7,sV [],iV 0,sV [],iV tp,x.a,.p .nl]) (.var [iV 7,sV [],iV 0,sV [],iV tp,x.a,.p .nl]) [.rows 1 0 [[sV [41]]]]);obtain⟨id,ver,ye⟩:=hL.shape (by rw[ha];simp);have hlen:x.rs.length=Rl.length+1:=by rw[hL.len,ha];rfl
    have d1:decide (((Rl.length+1:Nat):Int)=1)=false:=by
     have:Rl.length≠0:=fun h=>qI (List.length_eq_zero_iff.1 h)
     simp;omega
    rw[hlen]at ye;rw[if_neg qI];rw[ye]at hE⊢;have h00:∀B o o',(((x.A++B).set 1 o).set 0 o')[0]?=some o':=fun B o o'=>bg (aU (mS B) (by decide))
    have KM:∀B o,((x.A++B).set 1 o)[0]?=some (.var [iV 0,sV [],iV 0,sV [],iV 0,.p .nl,.p .nl]):=fun B o=>aU (mS B) (by decide)
    simp only[go_sem,simprocAttr,az hL.hn,aF hL.hn,aE hL.hn,aG hL.hn,hL.hn,hL.hn,d1,wZ,mS,BO,h00,KM,List.set_set];intro _;rw[ha]at hE;exact⟨_,x.H,_,u,rfl,rfl,hL.kp,iO hE⟩
  ·obtain⟨j,hj⟩:=hL.succ (aB T _) hg
   have dJ:=hL.ok.aI hT (cH hg).2;have eL:=dJ.run sP;have cJ:=(gU.aI hT sP hL.ok.1 (cH hg).2).1;rcases fF:ex (aI x.s)with⟨⟨k3,n3,u3,t3,q3,l3,m3⟩,s3⟩
   rw[fF]at eL cJ;obtain⟨M,oH,hM⟩:=hL.room (aB T _) hg (y:=.mk k3 n3 u3 t3 q3 l3 m3) (s2:=s3) fF;obtain⟨H2,cs2,bh,oe,og,zF,_,ix,call2⟩:=(hP p).use aa.wf fF hL.hn hp hb dJ oH (by omega);have mm:=fun A'=>ix _ _ x.A A' (hL.env.base hL.hn hp)
   obtain⟨c2,b2,rfl⟩:=(mm []).fH (hL.env.len);simp only[go_sem,simprocAttr,az hL.hn,aF hL.hn,aE hL.hn,aG hL.hn,hL.hn,hL.hn,hg,od];refine U (call2 _ trivial) ?_;simp only[go_sem,simprocAttr,az bh,aF bh,aE bh,aG bh,bh,bh,FV bh,vW bh,Nat.add_zero];refine⟨by intro r hr;simp at hr;subst hr;rfl,?_⟩;refine hL.app bh (fun k o h=>ay h _) aO (by decide) ?_;intro id ver A' w1 w2 w3;have j0:=(w3 0 (by decide)).trans i0;have j1:=(w3 1 (by decide)).trans i1;simp only[go_sem,simprocAttr,az bh,aF bh,aE bh,aG bh,bh,bh];exact⟨⟨x.j-1,s3,x.acc++[.mk k3 n3 u3 t3 q3 l3 m3],x.rs++[[iV k3,sV n3,iV u3,sV t3,iV q3,c2,b2]],.gs id ver 0 (x.rs.length+1),H2,A'⟩,⟨⟨hL.next (aB T _) hg fF eL cJ bh oe og (by omega) (mm A') rfl w1 w2 (fun k o _ h=>h) (by intro k hk;simp at hk;rcases hk with rfl|rfl;exact bj j0;exact bj j1),j0,j1⟩,rfl⟩,by have h1:x.s.i<s3.i:=cJ;have:=hL.ok.1;simp only;omega⟩
theorem MM {d:Nat} (hd:d<=1099511627776) {ex:PM aa} (hP:iu T most e 55 [iV (d+1:Nat)] ex aa.tv) (sP:ab T ex):iu T most e 220 [iV d] (fE T T.length ex) aa.tv:=by
 have hB:=agD hT aO hd hP sP;refine ig fun p K b n s hn hp hb hs hF=>?_
 have bW:p<K.length:=by omega
 have jC:=ws aO hs;refine call220 (by simp) ?_;simp only[go_sem,simprocAttr,az hn,aF hn,aE hn,aG hn,hn,hn,KH,SB];refine U (lE K _ p s bW hs) ?_;simp only[go_sem,simprocAttr,az hn,aF hn,aE hn,aG hn,hn,hn,Tok.cells];unfold fE at hF⊢;rw[bN]at hF⊢;generalize Cz:aJ T s=t at *;obtain⟨tk,tt,tn,tp⟩:=t;simp only at hF⊢;refine U (iY 1 K _ p s bW hs) ?_;cases c0:bB T 1 s;rotate_left
 ·rw[aS c0]
  simp only[go_sem,simprocAttr,az hn,aF hn,aE hn,aG hn,hn,hn,c0,mn bW,qq bW,jC,di];refine⟨K.set p (db T most s)++[_,_,.dead],vC _ _ _ _,?_⟩;simp only[go_sem,simprocAttr,az hn,aF hn,aE hn,aG hn,hn,hn,mn bW,qq bW,jC,di];refine⟨vC _ _ _ _,?_⟩;exact⟨_,K,_,0,rfl,rfl,Kp.rfl,iN _ _ _ _ _ _ _ _⟩
 rw[aZ c0]at hF⊢;simp only[go_sem,simprocAttr,az hn,aF hn,aE hn,aG hn,hn,hn,c0];refine U (iY 2 K _ p s bW hs) ?_;cases c1:bB T 2 s;rotate_left
 ·rw[aS c1]
  simp only[go_sem,simprocAttr,az hn,aF hn,aE hn,aG hn,hn,hn,c1,mn bW,qq bW,jC,di];refine⟨K.set p (db T most s)++[_,_,.dead],vC _ _ _ _,?_⟩;simp only[go_sem,simprocAttr,az hn,aF hn,aE hn,aG hn,hn,hn,mn bW,qq bW,jC,di];refine⟨vC _ _ _ _,?_⟩;exact⟨_,K,_,0,rfl,rfl,Kp.rfl,iN _ _ _ _ _ _ _ _⟩
 rw[aZ c1]at hF⊢;simp only[go_sem,simprocAttr,az hn,aF hn,aE hn,aG hn,hn,hn,c1];refine U (ur [116,114,117,101] K _ p s bW hs) ?_;cases c2:aL T [116,114,117,101] s;rotate_left
 ·rw[aS c2]
  simp only[go_sem,simprocAttr,az hn,aF hn,aE hn,aG hn,hn,hn,c2,mn bW,qq bW,jC,di];exact⟨_,K,_,0,rfl,rfl,Kp.rfl,iN _ _ _ _ _ _ _ _⟩
 rw[aZ c2]at hF⊢;simp only[go_sem,simprocAttr,az hn,aF hn,aE hn,aG hn,hn,hn,c2];refine U (ur [102,97,108,115,101] K _ p s bW hs) ?_;cases c3:aL T [102,97,108,115,101] s;rotate_left
 ·rw[aS c3]
  simp only[go_sem,simprocAttr,az hn,aF hn,aE hn,aG hn,hn,hn,c3,mn bW,qq bW,jC,di];exact⟨_,K,_,0,rfl,rfl,Kp.rfl,iN _ _ _ _ _ _ _ _⟩
 rw[aZ c3]at hF⊢;simp only[go_sem,simprocAttr,az hn,aF hn,aE hn,aG hn,hn,hn,c3];refine U (iY 3 K _ p s bW hs) ?_;cases c4:bB T 3 s;rotate_left
 ·rw[aS c4]
  simp only[go_sem,simprocAttr,az hn,aF hn,aE hn,aG hn,hn,hn,c4,mn bW,qq bW,jC,di];refine⟨K.set p (db T most s)++[_,_,.dead],vC _ _ _ _,?_⟩;simp only[go_sem,simprocAttr,az hn,aF hn,aE hn,aG hn,hn,hn,mn bW,qq bW,jC,di];refine⟨vC _ _ _ _,?_⟩;exact⟨_,K,_,0,rfl,rfl,Kp.rfl,iN _ _ _ _ _ _ _ _⟩
 rw[aZ c4]at hF⊢;simp only[go_sem,simprocAttr,az hn,aF hn,aE hn,aG hn,hn,hn,c4];refine U (iY 4 K _ p s bW hs) ?_;cases c5:bB T 4 s;rotate_left
 ·rw[aS c5]
  simp only[go_sem,simprocAttr,az hn,aF hn,aE hn,aG hn,hn,hn,c5,mn bW,qq bW,jC,di];refine⟨K.set p (db T most s)++[_,_,.dead],vC _ _ _ _,?_⟩;simp only[go_sem,simprocAttr,az hn,aF hn,aE hn,aG hn,hn,hn,mn bW,qq bW,jC,di];refine⟨vC _ _ _ _,?_⟩;exact⟨_,K,_,0,rfl,rfl,Kp.rfl,iN _ _ _ _ _ _ _ _⟩
 rw[aZ c5]at hF⊢;simp only[go_sem,simprocAttr,az hn,aF hn,aE hn,aG hn,hn,hn,c5];refine U (ur [114,101,97,100] K _ p s bW hs) ?_;cases c6:aL T [114,101,97,100] s;rotate_left
 ·rw[aS c6]
  simp only[go_sem,simprocAttr,az hn,aF hn,aE hn,aG hn,hn,hn,c6,mn bW,qq bW,jC,di];refine⟨K.set p (db T most s)++[_,_,.dead],vC _ _ _ _,?_⟩;simp only[go_sem,simprocAttr,az hn,aF hn,aE hn,aG hn,hn,hn,mn bW,qq bW,jC,di];refine⟨vC _ _ _ _,?_⟩;exact⟨_,K,_,0,rfl,rfl,Kp.rfl,iN _ _ _ _ _ _ _ _⟩
 rw[aZ c6]at hF⊢;simp only[go_sem,simprocAttr,az hn,aF hn,aE hn,aG hn,hn,hn,c6];rcases hq:Fq T T.length ex s with⟨⟨k1,n1,u1,t1,q1,l1,m1⟩,s1⟩
 rw[hq]at hF;obtain⟨H1,cs1,ar,dV,fB,lI,_,cE,cb⟩:=(hB p).use aa.wf hq hn hp hb hs hF (Nat.le_refl _);refine U (cb _ trivial) ?_;have cV:=fun A A'=>cE [] [] A A' (Env.nil _ _ _)
 obtain⟨c1,b1,rfl⟩:=(cV [] []).fH rfl;simp only[go_sem,simprocAttr,az ar,aF ar,aE ar,aG ar,ar,ar];exact⟨_,H1,_,n,rfl,rfl,dV,cV [] _⟩
end
theorem gu {f:Nat} {args:List AV} {B:List AO->Prop} {X Y:List AO} {r:AV} (h:∀A,B A->aA Tryz.prog f args (X++A) (aW r (Y++A))) (A:List AO) (hB:∀A',B (A++A')):∀A',aA Tryz.prog f args ((X++A)++A') (aW r ((Y++A)++A')):=fun A'=>by
 rw[List.append_assoc,List.append_assoc];exact h _ (hB A')
theorem qJ {H K:List AO} {n p:Nat} (hn:H.length=n) (hk:K.length=n) (c d:AO) (A:List AO):(H.set p c++A).length=(K.set p d++A).length:=by simp[hn,hk]
def SJ:List (List UInt8):=[[112,114,105,110,116],[101,120,105,116],[115,105,122,101],[114,101,102],[33]]
section
variable {T:List Tok} {most e:Nat} (hT:bL T) (aO:T.length<=1073741825)
include hT aO
theorem adx {d:Nat} (hd:d<=1099511627776) {ex:PM aa} (hP:iu T most e 55 [iV (d+1:Nat)] ex aa.tv) (sP:ab T ex):iu T most e 218 [iV d] (tY T T.length ex) aa.tv:=by
 have hA:=MM hT aO hd hP sP;refine ig fun p K b n s hn hp hb hs hF=>?_
 have bW:p<K.length:=by omega
 have jC:=ws aO hs;refine call218 (by simp) ?_;simp only[go_sem,simprocAttr,az hn,aF hn,aE hn,aG hn,hn,hn,KE,Sz];refine U (lE K _ p s bW hs) ?_;simp only[go_sem,simprocAttr,az hn,aF hn,aE hn,aG hn,hn,hn,Tok.cells];unfold tY at hF⊢;rw[bN]at hF⊢;intro _
 have hN5:∀j,j<5->(SJ.map fun w=>[sV w])[j]?=some [sV (SJ.getD j [])]:=fun j hj=>by
  match j,hj with
  |0,_=>rfl
  |1,_=>rfl
  |2,_=>rfl
  |3,_=>rfl
  |4,_=>rfl
 have qH:il T s=(aL T [112,114,105,110,116] s||aL T [101,120,105,116] s||aL T [115,105,122,101] s||aL T [114,101,102] s||aL T [33] s):=rfl;refine⟨Nat,[0,1,4,5,11,12,13],fun j st=>(j<=5/\∀i,i<j->aL T (SJ.getD i []) s=false)/\st=⟨[(0,.ptr p 0),(1,iV d),(4,.ptr n 0),(5,.ptr (n+1) 0),(11,.gs (n+2) 0 0 5),(12,iV 5),(13,iV (j:Nat))],[],K.set p (db T most s)++[.var [iV 0,sV [],iV 0,sV [],iV 0,.p .nl,.p .nl],.var [iV (aJ T s).k,sV (aJ T s).t,iV (aJ T s).n,iV (aJ T s).p],.rows 1 0 (SJ.map fun w=>[sV w])]⟩,fun j=>5-j,⟨0,?_⟩,?_⟩
 ·simp only[go_sem,simprocAttr,az hn,aF hn,aE hn,aG hn,hn,hn]
  exact⟨fun i hi=>absurd hi (by omega),rfl⟩
 ·rintro j _ ⟨⟨hj,lb⟩,rfl⟩
  have HS:wr .i64 ((j:Int)+1)=((j+1:Nat):Int):=bp _ (by omega);by_cases aj:j<5
  ·have d1:decide ((j:Int)<5)=true:=by simp;omega
   simp only[go_sem,simprocAttr,az hn,aF hn,aE hn,aG hn,hn,hn,d1,hN5 j aj,Option.map_some];refine⟨by omega,?_⟩;generalize hw:SJ.getD j []=w at *;refine U (iq aO w K _ p s bW hs) ?_;unfold dm;cases hg:aL T w s
   ·simp only[go_sem,simprocAttr,az hn,aF hn,aE hn,aG hn,hn,hn,hg,HS]
    exact⟨j+1,⟨⟨aj,fun i hi=>by
     rcases Nat.lt_or_ge i j with h|h
     ·exact lb i h
     ·obtain rfl:i=j:=by omega
      rw[hw];exact hg⟩,rfl⟩,by omega⟩
   ·have yf:il T s=true:=by
     rw[qH]
     match j,aj,hw with
     |0,_,hw=>obtain rfl:[112,114,105,110,116]=w:=hw;simp[hg]
     |1,_,hw=>obtain rfl:[101,120,105,116]=w:=hw;simp[hg]
     |2,_,hw=>obtain rfl:[115,105,122,101]=w:=hw;simp[hg]
     |3,_,hw=>obtain rfl:[114,101,102]=w:=hw;simp[hg]
     |4,_,hw=>obtain rfl:[33]=w:=hw;simp[hg]
    have SK:(aJ T s).t=w:=by simp[aL]at hg;exact hg.2
    have bG:=hs.aI hT (cH hg).2;rcases hq:fE T T.length ex (aI s)with⟨⟨k1,n1,u1,t1,q1,l1,m1⟩,s2⟩
    have e1:(aH (fE T T.length ex) fun a=>aT (node1 15 (aJ T s).t (aJ T s).p a)) (aI s)=(aa.mk 15 w 0 [] (aJ T s).p [.mk k1 n1 u1 t1 q1 l1 m1] [],s2):=by rw[aP,hq,SK];rfl
    rw[aS yf,e1]at hF⊢;generalize (aJ T s).p=tp at *;simp only[go_sem,simprocAttr,az hn,aF hn,aE hn,aG hn,hn,hn,hg];obtain⟨H1,cs1,ar,dV,fB,lI,_,cE,cb⟩:=(hA p).use aa.wf hq hn hp hb bG hF (by rw[nh 15,List.map_cons,nK];omega);have cV:=fun A A'=>cE [] [] A A' (Env.nil _ _ _)
    obtain⟨c1,b1,rfl⟩:=(cV [] []).fH rfl;refine⟨_,gS hn _ _ _,?_⟩;simp only[go_sem,simprocAttr,az hn,aF hn,aE hn,aG hn,hn,hn];refine aR _ _ (qJ ar hn _ _ _) (gS ar _ _ _) (gu cb _ fun _=>trivial) ?_;simp only[go_sem,simprocAttr,az ar,aF ar,aE ar,aG ar,ar,ar,Nat.add_zero];exact⟨_,H1,_,_,rfl,rfl,dV,iO ((cV [] _).node1 (by rw[az ar];rfl) (by omega) (by omega) (aa.cm _))⟩
  ·obtain rfl:j=5:=by omega
   have SL:il T s=false:=by
    rw[qH,show aL T [112,114,105,110,116] s=false from lb 0 (by omega),show aL T [101,120,105,116] s=false from lb 1 (by omega),show aL T [115,105,122,101] s=false from lb 2 (by omega),show aL T [114,101,102] s=false from lb 3 (by omega),show aL T [33] s=false from lb 4 (by omega)];rfl
   rw[aZ SL]at hF⊢;simp only[go_sem,simprocAttr,az hn,aF hn,aE hn,aG hn,hn,hn];refine U (iY 4 K _ p s bW hs) ?_;cases c4:bB T 4 s
   ·rw[aZ c4]at hF⊢
    simp only[go_sem,simprocAttr,az hn,aF hn,aE hn,aG hn,hn,hn,c4,Bool.not_false,Bool.not_true];rcases hq:fE T T.length ex s with⟨⟨k1,n1,u1,t1,q1,l1,m1⟩,s2⟩
    rw[hq]at hF;obtain⟨H1,cs1,ar,dV,fB,lI,_,cE,cb⟩:=(hA p).use aa.wf hq hn hp hb hs hF (Nat.le_refl _);refine U (cb _ trivial) ?_;have cV:=fun A A'=>cE [] [] A A' (Env.nil _ _ _)
    obtain⟨c1,b1,rfl⟩:=(cV [] []).fH rfl;simp only[go_sem,simprocAttr,az ar,aF ar,aE ar,aG ar,ar,ar];exact⟨_,H1,_,n,rfl,rfl,dV,cV [] _⟩
   ·rw[aS c4]at hF⊢
    have bD:=hs.aI hT (show(aJ T s).k≠8 by have:=(qF c4).2;omega);generalize (aJ T s).t=tt at *;generalize (aJ T s).p=tp at *;simp only[go_sem,simprocAttr,az hn,aF hn,aE hn,aG hn,hn,hn,c4,Bool.not_false,Bool.not_true,mn bW,qq bW,jC,di];refine U (Cy K _ p _ bW bD) ?_;cases ba:ei T (aI s)
    ·rw[ji ba]at hF⊢
     simp only[go_sem,simprocAttr,az hn,aF hn,aE hn,aG hn,hn,hn,ba];exact⟨_,K,_,0,rfl,rfl,Kp.rfl,iN _ _ _ _ _ _ _ _⟩
    ·rw[fv ba]at hF⊢
     rcases hq:fE T T.length ex (aI s)with⟨⟨k1,n1,u1,t1,q1,l1,m1⟩,s2⟩
     have e1:(aH (fE T T.length ex) fun a=>aT (node1 6 tt tp a)) (aI s)=(aa.mk 6 tt 0 [] tp [.mk k1 n1 u1 t1 q1 l1 m1] [],s2):=by rw[aP,hq];rfl
     rw[e1]at hF⊢;simp only[go_sem,simprocAttr,az hn,aF hn,aE hn,aG hn,hn,hn,ba];obtain⟨H1,cs1,ar,dV,fB,lI,_,cE,cb⟩:=(hA p).use aa.wf hq hn hp hb bD hF (by rw[nh 6,List.map_cons,nK];omega);refine U (cb _ trivial) ?_;have cV:=fun A A'=>cE [] [] A A' (Env.nil _ _ _)
     obtain⟨c1,b1,rfl⟩:=(cV [] []).fH rfl;simp only[go_sem,simprocAttr,az ar,aF ar,aE ar,aG ar,ar,ar,Nat.add_zero];exact⟨_,H1,_,_,rfl,rfl,dV,iO ((cV [] _).node1 (by rw[az ar];rfl) (by omega) (by omega) (aa.cm _))⟩
end
theorem FW (a:aa):∃k n u t q l m,a=.mk k n u t q l m:=by cases a;exact⟨_,_,_,_,_,_,_,rfl⟩
structure CG where
 j:Nat
 s:PS
 a:aa
 cs:List AV
 H:List AO
 A:List AO
 M:Nat
structure uw (pv:PS->AO) (T:List Tok) (e b n p:Nat) (K:List AO) (v:Nat) (g:PS->Bool) (m:aa->PM aa) (R:aa×PS) (x:CG):Prop where
 ok:Ok T e x.s
 fu:x.s.c=0->T.length-x.s.i<=x.j
 eq:carry g m x.j x.a x.s=R
 hn:x.H.length=n
 kp:Kp b K x.H
 fr:Fr b x.H x.M
 room:nC R.1.tv<=nC x.a.tv+x.M
 env:∃u,n<=u/\u<=n+x.A.length/\Env b u (x.H.set p (pv x.s)++x.A) x.a.tv x.cs
 var:x.A[v]?=some (.var x.cs)
theorem nL {g:PS→Bool} {m:aa→PM aa} (h:∀a s,nC a.tv≤nC (m a s).1.tv):∀n a s,nC a.tv≤nC (carry g m n a s).1.tv
  |0,a,s=>Nat.le_refl _
  |n+1,a,s=>by
   rw[carry];split
   · exact Nat.le_trans (h a s) (nL h n _ _)
   · exact Nat.le_refl _
theorem kF (k:Int) (nm:List UInt8) (q:Int) (a b:aa):nC (aa.tv (node2 k nm q a b))=1+(nC a.tv+nC b.tv):=by
 rw[node2,nh];simp[nK,nR]
section
variable {pv:PS->AO} {T:List Tok} {e b n p v:Nat} {K:List AO} {g:PS->Bool} {m:aa->PM aa} {R:aa×PS}
theorem uw.start {s:PS} {a:aa} {cs:List AV} {H A:List AO} {M:Nat} (hs:Ok T e s) (h:carry g m T.length a s=R) (hn:H.length=n) (hk:Kp b K H) (hF:Fr b H M) (hM:nC R.1.tv<=nC a.tv+M) (hE:Env b n (H.set p (pv s)++A) a.tv cs) (hv:A[v]?=some (.var cs)):uw pv T e b n p K v g m R ⟨T.length,s,a,cs,H,A,M⟩:=
 ⟨hs,fun _=>by simp only;omega,h,hn,hk,hF,hM,⟨n,Nat.le_refl _,Nat.le_add_right _ _,hE⟩,hv⟩
theorem uw.stop {x:CG} (h:uw pv T e b n p K v g m R x) (hg:g x.s=false):R=(x.a,x.s):=by
 have:=h.eq;rw[rf hg]at this;exact this.symm
theorem uw.succ {x:CG} (h:uw pv T e b n p K v g m R x) (ho:eN T g) (hg:g x.s=true):∃j',x.j=j'+1:=⟨x.j-1,by have:=h.fu (ho x.s hg).1;have:=h.ok.1;omega⟩
theorem uw.FX {x:CG} (h:uw pv T e b n p K v g m R x) (ho:eN T g) (hg:g x.s=true) (w4:∀a s,nC a.tv<=nC (m a s).1.tv) {k:Int} {nm:List UInt8} {q:Int} {y:aa} {s2:PS} (hm:m x.a x.s=(node2 k nm q x.a y,s2)):nC y.tv<=x.M:=by
 obtain⟨j',hj⟩:=h.succ ho hg;have h1:=h.eq;rw[hj,carry,if_pos hg,hm]at h1;have h2:=nL (g:=g) w4 j' (node2 k nm q x.a y) s2;rw[h1,kF]at h2;have:=h.room;omega
theorem uw.next {x:CG} (h:uw pv T e b n p K v g m R x) (hp:p<b) (hb:b<=n) (ho:eN T g) (hg:g x.s=true) (w4:∀a s,nC a.tv<=nC (m a s).1.tv) {k:Int} {nm:List UInt8} {q:Int} {y:aa} {s0 s2:PS} (hm:m x.a x.s=(node2 k nm q x.a y,s2)) (bD:Ok T e s2) (cJ:x.s.i<s2.i)
  {H1 A':List AO} {cs1:List AV} {r:Nat} (ar:H1.length=n) (dV:Kp b x.H H1) (fB:Fr b H1 (x.M-nC y.tv)) (XS:cs1.length=7)
  (cE:∀u ts ds A,n<=u->Env b u (x.H.set p (pv s0)++A) ts ds->Env b u (H1.set p (pv s2)++A) (ts++y.tv) (ds++cs1))
  (hk:∀(i:Nat) o,i≠v->x.A[i]?=some o->A'[i]?=some o) (hv:A'[v]?=some (.var [iV k,sV nm,iV 0,sV [],iV q,.gs (n+r) 0 0 2,.p .nl])) (hr:A'[r]?=some (.rows 7 0 [x.cs,cs1])) (n9:x.A.length<=r):
  uw pv T e b n p K v g m R ⟨x.j-1,s2,node2 k nm q x.a y,[iV k,sV nm,iV 0,sV [],iV q,.gs (n+r) 0 0 2,.p .nl],H1,A',x.M-nC y.tv⟩:=by
 have hro:=h.FX ho hg w4 hm;obtain⟨j',hj⟩:=h.succ ho hg;have h1:=h.eq;rw[hj,carry,if_pos hg,hm]at h1;obtain⟨u,u1,u2,hE⟩:=h.env;have hl7:x.cs.length=7:=by rw[hE.len,aa.cm]
 refine⟨bD,fun hc=>?_,by rw[hj,Nat.add_sub_cancel];exact h1,ar,h.kp.trans dV,fB,by simp only;rw[kF];have:=h.room;omega,⟨n+r+1,by omega,by have:=bj hr;simp only;omega,?_⟩,hv⟩
 ·have:=h.fu (ho x.s hg).1;have:=h.ok.1;simp only;omega
 ·have e1:=(cE u _ _ x.A u1 (hE.q h.hn hp fun _ _ _ _ h=>h)).q (A':=A') (c':=pv s2) ar hp fun i sz ver rs hi=>hk i _ (by rintro rfl;rw[h.var]at hi;cases hi) hi
  exact iO (Env.node (rows:=[x.a.tv,y.tv]) (rs:=[x.cs,cs1]) (by simpa using e1) (by rw[az ar];exact hr) (by omega) (by omega) rfl (by intro r hr;simp at hr;rcases hr with rfl|rfl<;>exact aa.cm _) (by intro r hr;simp at hr;rcases hr with rfl|rfl<;>assumption) (by simp))
end
section
variable {T:List Tok} {most e:Nat} (hT:bL T) (aO:T.length<=1073741825)
include hT aO
theorem N8 {ex:PM aa} (sP:ab T ex) {s:PS} (hi:s.i<T.length) (hg:ei T s=true):s.i<(fE T T.length ex s).2.i:=by
 have ha:s.i<(aI s).i:=by show s.i<s.i+1;omega
 unfold fE;rw[bN];cases c0:bB T 1 s;rotate_left
 ·rw[aS c0];exact ha
 rw[aZ c0];cases c1:bB T 2 s;rotate_left
 ·rw[aS c1];exact ha
 rw[aZ c1];cases c2:aL T [116,114,117,101] s;rotate_left
 ·rw[aS c2];exact ha
 rw[aZ c2];cases c3:aL T [102,97,108,115,101] s;rotate_left
 ·rw[aS c3];exact ha
 rw[aZ c3];cases c4:bB T 3 s;rotate_left
 ·rw[aS c4];exact ha
 rw[aZ c4];cases c5:bB T 4 s;rotate_left
 ·rw[aS c5];exact ha
 rw[aZ c5];cases c6:aL T [114,101,97,100] s;rotate_left
 ·rw[aS c6];exact ha
 rw[aZ c6];have hb:aL T [40] s=true:=by simpa[ei,c0,c1,c2,c3,c4,c5,c6]using hg
 unfold Fq;rw[bN,da];have ew:aX T [40] s=aI s:=by unfold aX;rw[if_pos hb]
 rw[ew];refine(gU.aI hT (f:=fun s'=>(bm (aL T [41]) (aT (leaf 4 [] 0 [] (aJ T s).p)) (eJ (fun s=>!decide (s.c=0)) (aT (leaf 4 [] 0 [] (aJ T s).p)) (aH ex fun a=>aH (many (aL T [44]) (bT ex) T.length) fun l=>cz (aX T [41]) (aT (if l=[]then a else .mk 7 [] 0 [] (aJ T s).p (a::l) [])))) s').2) ?_ hi (cH hb).2).1;exact ab.bm hT (aB T _) (ab.ret _) (ab.eJ (ab.ret _) (ab.bind sP fun _=>ab.bind (ab.gp hT (aB T _) sP _) fun _=>ab.step (aK hT _) (ab.ret _)))
theorem ady {d:Nat} (hd:d<=1099511627776) {ex:PM aa} (hP:iu T most e 55 [iV (d+1:Nat)] ex aa.tv) (sP:ab T ex):iu T most e 194 [iV d] (vS T T.length ex) aa.tv:=by
 have hA:=MM hT aO hd hP sP;have hB:=adx hT aO hd hP sP;have sA:=Pg.j6 (N:=T.length) hT sP;have sB:=Pg.wF (N:=T.length) hT sP;have oN:eN T (ei T):=only_atNx;refine ig fun p K b n s hn hp hb hs hF=>?_
 have bW:p<K.length:=by omega
 refine call194 (by simp) ?_;simp only[go_sem,simprocAttr,az hn,aF hn,aE hn,aG hn,hn,hn,KB,Sw];rcases hq:tY T T.length ex s with⟨⟨k1,n1,u1,t1,q1,l1,m1⟩,s1⟩
 have bG:=hs.run sB;rw[hq]at bG;have e0:vS T T.length ex s=xT T T.length (fE T T.length ex) (.mk k1 n1 u1 t1 q1 l1 m1) s1:=by unfold vS;rw[aP,hq]
 rw[e0]at hF⊢
 have w4:∀a s,nC a.tv<=nC ((fun a=>aH (fE T T.length ex) fun b=>aT (node2 9 [] a.pos a b)) a s).1.tv:=fun a s=>by
  show nC a.tv<=nC (node2 9 [] a.pos a _).tv;rw[kF];omega
 unfold xT at hF⊢;generalize hR:carry (ei T) (fun a=>aH (fE T T.length ex) fun b=>aT (node2 9 [] a.pos a b)) T.length (.mk k1 n1 u1 t1 q1 l1 m1) s1=R at *;have gH:nC (aa.tv (.mk k1 n1 u1 t1 q1 l1 m1))<=nC R.1.tv:=by rw[<-hR];exact nL w4 _ _ _
 obtain⟨H1,cs1,ar,dV,fB,lI,_,cE,cb⟩:=(hB p).use aa.wf hq hn hp hb hs hF gH;refine U (cb _ trivial) ?_;have cV:=fun A A'=>cE [] [] A A' (Env.nil _ _ _)
 obtain⟨c1,b1,rfl⟩:=(cV [] []).fH rfl;simp only[go_sem,simprocAttr,az ar,aF ar,aE ar,aG ar,ar,ar]
 refine⟨CG,[0,1,4,5],fun x st=>(uw (db T most) T e b n p K 1 (ei T) (fun a=>aH (fE T T.length ex) fun b=>aT (node2 9 [] a.pos a b)) R x/\x.A[0]?=some (.var [iV 0,sV [],iV 0,sV [],iV 0,.p .nl,.p .nl]))/\st=⟨[(0,.ptr p 0),(1,iV d),(4,.ptr n 0),(5,.ptr (n+1) 0)],[],x.H.set p (db T most x.s)++x.A⟩,fun x=>T.length-x.s.i,
  ⟨⟨T.length,s1,.mk k1 n1 u1 t1 q1 l1 m1,[iV k1,sV n1,iV u1,sV t1,iV q1,c1,b1],H1,[.var [iV 0,sV [],iV 0,sV [],iV 0,.p .nl,.p .nl],.var [iV k1,sV n1,iV u1,sV t1,iV q1,c1,b1]],nC R.1.tv-nC (aa.tv (.mk k1 n1 u1 t1 q1 l1 m1))⟩,?_⟩,?_⟩
 ·exact⟨⟨uw.start bG hR ar dV fB (by omega) (cV [] _) rfl,rfl⟩,rfl⟩
 ·rintro x _ ⟨⟨hL,i0⟩,rfl⟩
  have kh:p<x.H.length:=by rw[hL.hn];omega
  simp only[go_sem,simprocAttr,az hL.hn,aF hL.hn,aE hL.hn,aG hL.hn,hL.hn,hL.hn];refine U (Cy x.H _ p x.s kh hL.ok) ?_;obtain⟨u,SM,u2',hE⟩:=hL.env;cases hg:ei T x.s
  ·have hx:=hL.stop hg
   rw[hx];obtain⟨d1,d2,d3,d4,d5,d6,d7,gQ⟩:=SG (hE.len.trans (aa.cm _));have i1:=hL.var;rw[gQ]at i1 hE;have hz:∀o,(x.A.set 0 o)[0]?=some o:=fun o=>bg i0
   simp only[go_sem,simprocAttr,az hL.hn,aF hL.hn,aE hL.hn,aG hL.hn,hL.hn,hL.hn,hg,i1,i0,hz];exact⟨_,x.H,_,u,rfl,rfl,hL.kp,hE.q hL.hn hp fun i sz ver rs hi=>aU hi (by rintro rfl;rw[i0]at hi;cases hi)⟩
  ·rcases ez:fE T T.length ex x.s with⟨⟨k3,n3,u3,t3,q3,l3,m3⟩,s3⟩
   have eL:=hL.ok.run sA;have cJ:=N8 hT aO sP hL.ok.1 hg;rw[ez]at eL cJ
   have hm:(fun a=>aH (fE T T.length ex) fun b=>aT (node2 9 [] a.pos a b)) x.a x.s=(node2 9 [] x.a.pos x.a (.mk k3 n3 u3 t3 q3 l3 m3),s3):=by
    show aH _ _ _=_;rw[aP,ez];rfl
   obtain⟨H2,cs2,bh,oe,og,zF,ix,_,call2⟩:=(hA p).use aa.wf ez hL.hn hp hb hL.ok hL.fr (hL.FX oN hg w4 hm);obtain⟨c2,b2,rfl⟩:=(ix u _ _ _ SM hE).fH hE.len;obtain⟨k4,n4,u4,t4,q4,l4,m4,ye⟩:=FW x.a;have vP:x.a.pos=q4:=by rw[ye];rfl
   rw[vP]at hm;have HT:=hE;rw[ye]at HT;obtain⟨c4,b4,gQ⟩:=Env.fH (ts:=[]) (ds:=[]) (cs:=x.cs) HT rfl;have i1:=hL.var;rw[gQ]at i1;have hz:∀B o,((x.A++B).set 1 o)[1]?=some o:=fun B o=>bg (ay i1 B)
   simp only[go_sem,simprocAttr,az hL.hn,aF hL.hn,aE hL.hn,aG hL.hn,hL.hn,hL.hn,hg];refine⟨_,gS hL.hn _ _ _,?_⟩;simp only[go_sem,simprocAttr,az hL.hn,aF hL.hn,aE hL.hn,aG hL.hn,hL.hn,hL.hn,i1];refine aR _ _ (qJ bh hL.hn _ _ _) (gS bh _ _ _) (gu call2 _ fun _=>trivial) ?_;simp only[go_sem,simprocAttr,az bh,aF bh,aE bh,aG bh,bh,bh,FV bh,vW bh,Nat.add_zero,ay i1 _]
   exact⟨⟨x.j-1,s3,node2 9 [] q4 x.a (.mk k3 n3 u3 t3 q3 l3 m3),[iV 9,sV [],iV 0,sV [],iV q4,.gs (n+x.A.length) 0 0 2,.p .nl],H2,_,x.M-nC (aa.tv (.mk k3 n3 u3 t3 q3 l3 m3))⟩,
    ⟨⟨hL.next (s0:=x.s) hp hb oN hg w4 hm eL cJ bh oe og rfl ix (fun i o hi ho=>aU (ay ho _) (by omega)) (hz _ _) (by rw[List.getElem?_set_ne (by have:=bj i1;omega),<-gQ,gq];rfl) (Nat.le_refl _),aU (ay i0 _) (by decide)⟩,rfl⟩,by have h1:x.s.i<s3.i:=cJ;have:=hL.ok.1;simp only;omega⟩
end
def BX (p q1 q2 d:Nat) (X:List AO):Prop:=q1≠p/\q2≠p/\X[q1]?=some (.var [.ptr p 0])/\X[q2]?=some (.var [iV d])
theorem BX.mono {p q1 q2 d:Nat} (X Y:List AO) (h:BX p q1 q2 d X) (k:∀(i:Nat) o,X[i]?=some o->Y[i]?=some o):BX p q1 q2 d Y:=⟨h.1,h.2.1,k _ _ h.2.2.1,k _ _ h.2.2.2⟩
theorem Dv {H:List AO} {p q:Nat} {o:AO} (hq:q≠p) (h:H[q]?=some o) (c:AO) (A:List AO):(H.set p c++A)[q]?=some o:=by
 rw[List.getElem?_append_left (by simpa using bj h),List.getElem?_set_ne (Ne.symm hq)];exact h
abbrev FY (T:List Tok) (most e d f:Nat) (m:PM aa):Prop:=∀p q1 q2,PX (db T most) T e f [.ptr q1 0,.ptr q2 0] (BX p q1 q2 d) p m aa.tv
section
variable {T:List Tok} {most e d:Nat}
theorem N9 {m:PM aa} (hG:iu T most e 194 [iV d] m aa.tv):FY T most e d 193 m:=by
 intro p q1 q2;refine zE (iA T most) BX.mono fun K b n s hn hp hb hs hB hF=>?_
 obtain⟨b1,b2,b3,b4⟩:=hB;have g1:=Dv b1 b3;have g2:=Dv b2 b4;refine call193 (by simp) ?_;simp only[go_sem,simprocAttr,az hn,aF hn,aE hn,aG hn,hn,hn,KA,Sv,g1,g2];rcases hq:m s with⟨⟨k1,n1,u1,t1,q3,l1,m1⟩,s1⟩
 rw[hq]at hF;obtain⟨H1,cs1,ar,dV,fB,lI,_,cE,cb⟩:=(hG p).use aa.wf hq hn hp hb hs hF (Nat.le_refl _);refine U (cb _ trivial) ?_;have cV:=fun A A'=>cE [] [] A A' (Env.nil _ _ _)
 obtain⟨c1,b1,rfl⟩:=(cV [] []).fH rfl;simp only[go_sem,simprocAttr,az ar,aF ar,aE ar,aG ar,ar,ar];exact⟨_,H1,_,n,rfl,rfl,dV,cV [] _⟩
theorem Oa {m:PM aa} (hG:iu T most e 163 [iV 1,iV d] m aa.tv):FY T most e d 195 m:=by
 intro p q1 q2;refine zE (iA T most) BX.mono fun K b n s hn hp hb hs hB hF=>?_
 obtain⟨b1,b2,b3,b4⟩:=hB;have g1:=Dv b1 b3;have g2:=Dv b2 b4;refine call195 (by simp) ?_;simp only[go_sem,simprocAttr,az hn,aF hn,aE hn,aG hn,hn,hn,KC,Sx,g1,g2];rcases hq:m s with⟨⟨k1,n1,u1,t1,q3,l1,m1⟩,s1⟩
 rw[hq]at hF;obtain⟨H1,cs1,ar,dV,fB,lI,_,cE,cb⟩:=(hG p).use aa.wf hq hn hp hb hs hF (Nat.le_refl _);refine U (cb _ trivial) ?_;have cV:=fun A A'=>cE [] [] A A' (Env.nil _ _ _)
 obtain⟨c1,b1,rfl⟩:=(cV [] []).fH rfl;simp only[go_sem,simprocAttr,az ar,aF ar,aE ar,aG ar,ar,ar];exact⟨_,H1,_,n,rfl,rfl,dV,cV [] _⟩
theorem KN {m:PM aa} (hG:iu T most e 163 [iV 0,iV d] m aa.tv):FY T most e d 162 m:=by
 intro p q1 q2;refine zE (iA T most) BX.mono fun K b n s hn hp hb hs hB hF=>?_
 obtain⟨b1,b2,b3,b4⟩:=hB;have g1:=Dv b1 b3;have g2:=Dv b2 b4;refine call162 (by simp) ?_;simp only[go_sem,simprocAttr,az hn,aF hn,aE hn,aG hn,hn,hn,Kv,Sq,g1,g2];rcases hq:m s with⟨⟨k1,n1,u1,t1,q3,l1,m1⟩,s1⟩
 rw[hq]at hF;obtain⟨H1,cs1,ar,dV,fB,lI,_,cE,cb⟩:=(hG p).use aa.wf hq hn hp hb hs hF (Nat.le_refl _);refine U (cb _ trivial) ?_;have cV:=fun A A'=>cE [] [] A A' (Env.nil _ _ _)
 obtain⟨c1,b1,rfl⟩:=(cV [] []).fH rfl;simp only[go_sem,simprocAttr,az ar,aF ar,aE ar,aG ar,ar,ar];exact⟨_,H1,_,n,rfl,rfl,dV,cV [] _⟩
theorem KO {m:PM aa} (hG:iu T most e 120 [iV 1,iV d] m aa.tv):FY T most e d 164 m:=by
 intro p q1 q2;refine zE (iA T most) BX.mono fun K b n s hn hp hb hs hB hF=>?_
 obtain⟨b1,b2,b3,b4⟩:=hB;have g1:=Dv b1 b3;have g2:=Dv b2 b4;refine call164 (by simp) ?_;simp only[go_sem,simprocAttr,az hn,aF hn,aE hn,aG hn,hn,hn,Kx,Sr,g1,g2];rcases hq:m s with⟨⟨k1,n1,u1,t1,q3,l1,m1⟩,s1⟩
 rw[hq]at hF;obtain⟨H1,cs1,ar,dV,fB,lI,_,cE,cb⟩:=(hG p).use aa.wf hq hn hp hb hs hF (Nat.le_refl _);refine U (cb _ trivial) ?_;have cV:=fun A A'=>cE [] [] A A' (Env.nil _ _ _)
 obtain⟨c1,b1,rfl⟩:=(cV [] []).fH rfl;simp only[go_sem,simprocAttr,az ar,aF ar,aE ar,aG ar,ar,ar];exact⟨_,H1,_,n,rfl,rfl,dV,cV [] _⟩
theorem KP (hd:d<=1099511627776) {m:PM aa} (hG:iu T most e 55 [iV (d+1:Nat)] m aa.tv):FY T most e d 118 m:=by
 intro p q1 q2;refine zE (iA T most) BX.mono fun K b n s hn hp hb hs hB hF=>?_
 obtain⟨b1,b2,b3,b4⟩:=hB;have g1:=Dv b1 b3;have g2:=Dv b2 b4;have od:wr .i64 ((d:Int)+1)=((d+1:Nat):Int):=bp _ (by omega);refine call118 (by simp) ?_;simp only[go_sem,simprocAttr,az hn,aF hn,aE hn,aG hn,hn,hn,Kl,Sh,g1,g2,od];rcases hq:m s with⟨⟨k1,n1,u1,t1,q3,l1,m1⟩,s1⟩
 rw[hq]at hF;obtain⟨H1,cs1,ar,dV,fB,lI,_,cE,cb⟩:=(hG p).use aa.wf hq hn hp hb hs hF (Nat.le_refl _);refine U (cb _ trivial) ?_;have cV:=fun A A'=>cE [] [] A A' (Env.nil _ _ _)
 obtain⟨c1,b1,rfl⟩:=(cV [] []).fH rfl;simp only[go_sem,simprocAttr,az ar,aF ar,aE ar,aG ar,ar,ar];exact⟨_,H1,_,n,rfl,rfl,dV,cV [] _⟩
end
theorem jy {C:ja} {Hm Hc:List AO} {x:MA} {d:MD} {J:PK} {st:St} {f:Nat} {eO:List AV} (hx:st.get x=.fI f eO) (h:oy C Hm Hc [] f eO d J st):DP C Hm Hc (.sH x []) d J st:=by
 unfold DP;simp only[hx];exact h
section
variable {T:List Tok} {most e:Nat} (hT:bL T) (aO:T.length<=1073741825)
include hT aO
theorem XT {d:Nat} {side:PM aa} (hC:FY T most e d 193 side) (sS:ab T side):iu T most e 163 [iV 1,iV d] (aH side (lP T T.length [[42]] side)) aa.tv:=by
 have oN:eN T (im T [[42]]):=eE _;refine ig fun p K b n s hn hp hb hs hF=>?_
 have bW:p<K.length:=by omega
 refine call163 (by simp) ?_;simp only[go_sem,simprocAttr,az hn,aF hn,aE hn,aG hn,hn,hn,FR,Kw];rcases hq:side s with⟨⟨k1,n1,u1,t1,q1,l1,m1⟩,s1⟩
 have bG:=hs.run sS;rw[hq]at bG;have e0:aH side (lP T T.length [[42]] side) s=lP T T.length [[42]] side (.mk k1 n1 u1 t1 q1 l1 m1) s1:=by rw[aP,hq]
 rw[e0]at hF⊢
 have w4:∀a s,nC a.tv<=nC ((fun a=>eI T fun t=>bT (aH side fun b=>aT (node2 14 t.t t.p a b))) a s).1.tv:=fun a s=>by
  show nC a.tv<=nC (node2 14 _ _ a _).tv;rw[kF];omega
 unfold lP at hF⊢;generalize hR:carry (im T [[42]]) (fun a=>eI T fun t=>bT (aH side fun b=>aT (node2 14 t.t t.p a b))) T.length (.mk k1 n1 u1 t1 q1 l1 m1) s1=R at *;have gH:nC (aa.tv (.mk k1 n1 u1 t1 q1 l1 m1))<=nC R.1.tv:=by rw[<-hR];exact nL w4 _ _ _
 have pW:n≠p:=by omega
 have kJ:n+1≠p:=by omega
 obtain⟨H1,cs1,ar,dV,fB,lI,_,cE,cb⟩:=(hC p n (n+1)).use aa.wf hq hn hp hb hs hF gH;refine U (cb _ ⟨pW,kJ,by rw[<-hn,gq];rfl,by rw[<-hn,fU];rfl⟩) ?_;have cV:=fun A A'=>cE [] [] A A' (Env.nil _ _ _)
 obtain⟨c1,b1,rfl⟩:=(cV [] []).fH rfl;simp only[go_sem,simprocAttr,az ar,aF ar,aE ar,aG ar,ar,ar];generalize w5:([.var [.ptr p 0],.var [iV d],.var [iV 0,sV [],iV 0,sV [],iV 0,.p .nl,.p .nl],.rows 1 0 ([[43],[45],[94]].map fun x=>[.p (.s x)]),.rows 1 0 ([[42]].map fun x=>[.p (.s x)]),.rows 1 0 [[.gs (n+3) 0 0 3],[.gs (n+4) 0 0 1]]]:List AO)=A6;have y0:A6[0]?=some (.var [.ptr p 0]):=by subst w5;rfl
 have y1:A6[1]?=some (.var [iV d]):=by subst w5;rfl
 have y2:A6[2]?=some (.var [iV 0,sV [],iV 0,sV [],iV 0,.p .nl,.p .nl]):=by subst w5;rfl
 have y3:A6[4]?=some (.rows 1 0 ([[42]].map fun x=>[.p (.s x)])):=by subst w5;rfl
 have y5:A6[5]?=some (.rows 1 0 [[.gs (n+3) 0 0 3],[.gs (n+4) 0 0 1]]):=by subst w5;rfl
 have y6:A6.length=6:=by subst w5;rfl
 refine⟨CG,[0,1,3,6,7,8,9],fun x st=>(uw (db T most) T e b n p K 6 (im T [[42]]) (fun a=>eI T fun t=>bT (aH side fun b=>aT (node2 14 t.t t.p a b))) R x/\∀(i:Nat) o,i<6->A6[i]?=some o->x.A[i]?=some o)/\st=⟨[(0,.ptr p 0),(1,iV 1),(3,.ptr n 0),(6,.ptr (n+2) 0),(7,.gs (n+5) 0 0 2),(8,.fI 193 [.ptr n 0,.ptr (n+1) 0]),(9,.ptr (n+6) 0)],[],x.H.set p (db T most x.s)++x.A⟩,fun x=>T.length-x.s.i,
  ⟨⟨T.length,s1,.mk k1 n1 u1 t1 q1 l1 m1,[iV k1,sV n1,iV u1,sV t1,iV q1,c1,b1],H1,A6++[.var [iV k1,sV n1,iV u1,sV t1,iV q1,c1,b1]],nC R.1.tv-nC (aa.tv (.mk k1 n1 u1 t1 q1 l1 m1))⟩,?_⟩,?_⟩
 ·exact⟨⟨uw.start bG hR ar dV fB (by omega) (cV [] _) (by rw[show(6:Nat)=A6.length from y6.symm,gq];rfl),fun i o hi ho=>ay ho _⟩,by subst w5;rfl⟩
 ·rintro x _ ⟨⟨hL,hI⟩,rfl⟩
  have kh:p<x.H.length:=by rw[hL.hn];omega
  have i0:=hI 0 _ (by decide) y0;have i1:=hI 1 _ (by decide) y1;have i2:=hI 2 _ (by decide) y2;have i3:=hI 4 _ (by decide) y3;have i5:=hI 5 _ (by decide) y5;have jC:=ws aO hL.ok;obtain⟨u,SM,u2',hE⟩:=hL.env;obtain⟨k4,n4,u4,t4,q4,l4,m4,ye⟩:=FW x.a;have HT:=hE;rw[ye]at HT;obtain⟨c4,b4,gQ⟩:=Env.fH (ts:=[]) (ds:=[]) (cs:=x.cs) HT rfl;have i6:=hL.var;rw[gQ]at i6;have rq:im T [[42]] x.s=(bB T 7 x.s&&decide ((aJ T x.s).t∈[[42]])):=rfl;simp only[go_sem,simprocAttr,az hL.hn,aF hL.hn,aE hL.hn,aG hL.hn,hL.hn,hL.hn];refine⟨_,bP.refl _,?_⟩;simp only[go_sem,simprocAttr,az hL.hn,aF hL.hn,aE hL.hn,aG hL.hn,hL.hn,hL.hn,i0];refine aQ ((iY (most:=most) 7).chain kh hL.ok) (bP.refl _) ?_;cases h7:bB T 7 x.s
  ·have hg:im T [[42]] x.s=false:=by rw[rq,h7];rfl
   have hx:=hL.stop hg;rw[hx];have hz:∀o,(x.A.set 2 o)[2]?=some o:=fun o=>bg i2
   simp only[go_sem,simprocAttr,az hL.hn,aF hL.hn,aE hL.hn,aG hL.hn,hL.hn,hL.hn,h7,i6,i2,hz];rw[gQ]at hE;exact⟨_,x.H,_,u,rfl,rfl,hL.kp,hE.q hL.hn hp fun i sz ver rs hi=>aU hi (by rintro rfl;rw[i2]at hi;cases hi)⟩
  simp only[go_sem,simprocAttr,az hL.hn,aF hL.hn,aE hL.hn,aG hL.hn,hL.hn,hL.hn,h7,i5,i0];refine aQ ((lE (most:=most)).chain kh hL.ok) (bP.refl _) ?_;simp only[go_sem,simprocAttr,az hL.hn,aF hL.hn,aE hL.hn,aG hL.hn,hL.hn,hL.hn,Tok.cells];refine U (rZ (L:=[[42]]) (by rw[az hL.hn];exact i3) (by decide)) ?_;cases wT:decide ((aJ T x.s).t∈[[42]])
  ·have hg:im T [[42]] x.s=false:=by rw[rq,h7,wT];rfl
   have hx:=hL.stop hg;rw[hx];have hz:∀o,(x.A.set 2 o)[2]?=some o:=fun o=>bg i2
   simp only[go_sem,simprocAttr,az hL.hn,aF hL.hn,aE hL.hn,aG hL.hn,hL.hn,hL.hn,wT,i6,i2,hz];rw[gQ]at hE;exact⟨_,x.H,_,u,rfl,rfl,hL.kp,hE.q hL.hn hp fun i sz ver rs hi=>aU hi (by rintro rfl;rw[i2]at hi;cases hi)⟩
  have hg:im T [[42]] x.s=true:=by rw[rq,h7,wT];rfl
  have hk7:=(qF h7).2;have dJ:=hL.ok.aI hT (show(aJ T x.s).k≠8 by omega);rcases ez:side (aI x.s)with⟨⟨k3,n3,u3,t3,q3,l3,m3⟩,s3⟩
  have eL:=dJ.run sS;have cJ:=(gU.aI hT sS hL.ok.1 (show(aJ T x.s).k≠8 by omega)).1;rw[ez]at eL cJ
  have hm:(fun a=>eI T fun t=>bT (aH side fun b=>aT (node2 14 t.t t.p a b))) x.a x.s=(node2 14 (aJ T x.s).t (aJ T x.s).p x.a (.mk k3 n3 u3 t3 q3 l3 m3),s3):=by
   simp only[bN,bT];rw[aP,ez];rfl
  obtain⟨H2,cs2,bh,oe,og,zF,ix,_,call2⟩:=(hC p n (n+1)).use aa.wf ez hL.hn hp hb dJ hL.fr (hL.FX oN hg w4 hm);obtain⟨c2,b2,rfl⟩:=(ix u _ _ x.A SM (hE.q hL.hn hp fun _ _ _ _ h=>h)).fH hE.len;simp only[go_sem,simprocAttr,az hL.hn,aF hL.hn,aE hL.hn,aG hL.hn,hL.hn,hL.hn,wT,i0];refine U (lE x.H _ p x.s kh hL.ok) ?_;simp only[go_sem,simprocAttr,az hL.hn,aF hL.hn,aE hL.hn,aG hL.hn,hL.hn,hL.hn,Tok.cells,i0,ay i0 _,FV hL.hn,vW hL.hn,mn kh,qq kh,jC,di];refine⟨_,gS hL.hn _ _ _,?_⟩;simp only[go_sem,simprocAttr,az hL.hn,aF hL.hn,aE hL.hn,aG hL.hn,hL.hn,hL.hn,i6,ay i6 _];refine jy rfl ?_;refine aR _ _ (qJ bh hL.hn _ _ _) (gS bh _ _ _) (gu call2 _ fun A'=>⟨pW,kJ,by rw[<-hL.hn,gq];exact ay (ay i0 _) _,by rw[<-hL.hn,fU];exact ay (ay i1 _) _⟩) ?_;have hz:∀B o,((x.A++B).set 6 o)[6]?=some o:=fun B o=>bg (ay i6 B)
  simp only[go_sem,simprocAttr,az bh,aF bh,aE bh,aG bh,bh,bh,FV bh,vW bh,Nat.add_zero,ay i6 _]
  exact⟨⟨x.j-1,s3,node2 14 (aJ T x.s).t (aJ T x.s).p x.a (.mk k3 n3 u3 t3 q3 l3 m3),[iV 14,sV (aJ T x.s).t,iV 0,sV [],iV (aJ T x.s).p,.gs (n+(x.A.length+1)) 0 0 2,.p .nl],H2,_,x.M-nC (aa.tv (.mk k3 n3 u3 t3 q3 l3 m3))⟩,
   ⟨⟨hL.next (s0:=aI x.s) hp hb oN hg w4 hm eL cJ bh oe og rfl ix (fun i o hi ho=>aU (ay ho _) (by omega)) (hz _ _) (by rw[List.getElem?_set_ne (by have:=bj i6;omega),<-gQ,fU];rfl) (Nat.le_add_right _ _),fun i o hi ho=>aU (ay (hI i o hi ho) _) (by omega)⟩,rfl⟩,by have h1:x.s.i<s3.i:=cJ;have:=hL.ok.1;simp only;omega⟩
theorem XU {d:Nat} {side:PM aa} (hC:FY T most e d 195 side) (sS:ab T side):iu T most e 163 [iV 0,iV d] (aH side (lP T T.length [[43],[45],[94]] side)) aa.tv:=by
 have oN:eN T (im T [[43],[45],[94]]):=eE _;refine ig fun p K b n s hn hp hb hs hF=>?_
 have bW:p<K.length:=by omega
 refine call163 (by simp) ?_;simp only[go_sem,simprocAttr,az hn,aF hn,aE hn,aG hn,hn,hn,FR,Kw];rcases hq:side s with⟨⟨k1,n1,u1,t1,q1,l1,m1⟩,s1⟩
 have bG:=hs.run sS;rw[hq]at bG;have e0:aH side (lP T T.length [[43],[45],[94]] side) s=lP T T.length [[43],[45],[94]] side (.mk k1 n1 u1 t1 q1 l1 m1) s1:=by rw[aP,hq]
 rw[e0]at hF⊢
 have w4:∀a s,nC a.tv<=nC ((fun a=>eI T fun t=>bT (aH side fun b=>aT (node2 14 t.t t.p a b))) a s).1.tv:=fun a s=>by
  show nC a.tv<=nC (node2 14 _ _ a _).tv;rw[kF];omega
 unfold lP at hF⊢;generalize hR:carry (im T [[43],[45],[94]]) (fun a=>eI T fun t=>bT (aH side fun b=>aT (node2 14 t.t t.p a b))) T.length (.mk k1 n1 u1 t1 q1 l1 m1) s1=R at *;have gH:nC (aa.tv (.mk k1 n1 u1 t1 q1 l1 m1))<=nC R.1.tv:=by rw[<-hR];exact nL w4 _ _ _
 have pW:n≠p:=by omega
 have kJ:n+1≠p:=by omega
 obtain⟨H1,cs1,ar,dV,fB,lI,_,cE,cb⟩:=(hC p n (n+1)).use aa.wf hq hn hp hb hs hF gH;refine U (cb _ ⟨pW,kJ,by rw[<-hn,gq];rfl,by rw[<-hn,fU];rfl⟩) ?_;have cV:=fun A A'=>cE [] [] A A' (Env.nil _ _ _)
 obtain⟨c1,b1,rfl⟩:=(cV [] []).fH rfl;simp only[go_sem,simprocAttr,az ar,aF ar,aE ar,aG ar,ar,ar];generalize w5:([.var [.ptr p 0],.var [iV d],.var [iV 0,sV [],iV 0,sV [],iV 0,.p .nl,.p .nl],.rows 1 0 ([[43],[45],[94]].map fun x=>[.p (.s x)]),.rows 1 0 ([[42]].map fun x=>[.p (.s x)]),.rows 1 0 [[.gs (n+3) 0 0 3],[.gs (n+4) 0 0 1]]]:List AO)=A6;have y0:A6[0]?=some (.var [.ptr p 0]):=by subst w5;rfl
 have y1:A6[1]?=some (.var [iV d]):=by subst w5;rfl
 have y2:A6[2]?=some (.var [iV 0,sV [],iV 0,sV [],iV 0,.p .nl,.p .nl]):=by subst w5;rfl
 have y3:A6[3]?=some (.rows 1 0 ([[43],[45],[94]].map fun x=>[.p (.s x)])):=by subst w5;rfl
 have y5:A6[5]?=some (.rows 1 0 [[.gs (n+3) 0 0 3],[.gs (n+4) 0 0 1]]):=by subst w5;rfl
 have y6:A6.length=6:=by subst w5;rfl
 refine⟨CG,[0,1,3,6,7,8,9],fun x st=>(uw (db T most) T e b n p K 6 (im T [[43],[45],[94]]) (fun a=>eI T fun t=>bT (aH side fun b=>aT (node2 14 t.t t.p a b))) R x/\∀(i:Nat) o,i<6->A6[i]?=some o->x.A[i]?=some o)/\st=⟨[(0,.ptr p 0),(1,iV 0),(3,.ptr n 0),(6,.ptr (n+2) 0),(7,.gs (n+5) 0 0 2),(8,.fI 195 [.ptr n 0,.ptr (n+1) 0]),(9,.ptr (n+6) 0)],[],x.H.set p (db T most x.s)++x.A⟩,fun x=>T.length-x.s.i,
  ⟨⟨T.length,s1,.mk k1 n1 u1 t1 q1 l1 m1,[iV k1,sV n1,iV u1,sV t1,iV q1,c1,b1],H1,A6++[.var [iV k1,sV n1,iV u1,sV t1,iV q1,c1,b1]],nC R.1.tv-nC (aa.tv (.mk k1 n1 u1 t1 q1 l1 m1))⟩,?_⟩,?_⟩
 ·exact⟨⟨uw.start bG hR ar dV fB (by omega) (cV [] _) (by rw[show(6:Nat)=A6.length from y6.symm,gq];rfl),fun i o hi ho=>ay ho _⟩,by subst w5;rfl⟩
 ·rintro x _ ⟨⟨hL,hI⟩,rfl⟩
  have kh:p<x.H.length:=by rw[hL.hn];omega
  have i0:=hI 0 _ (by decide) y0;have i1:=hI 1 _ (by decide) y1;have i2:=hI 2 _ (by decide) y2;have i3:=hI 3 _ (by decide) y3;have i5:=hI 5 _ (by decide) y5;have jC:=ws aO hL.ok;obtain⟨u,SM,u2',hE⟩:=hL.env;obtain⟨k4,n4,u4,t4,q4,l4,m4,ye⟩:=FW x.a;have HT:=hE;rw[ye]at HT;obtain⟨c4,b4,gQ⟩:=Env.fH (ts:=[]) (ds:=[]) (cs:=x.cs) HT rfl;have i6:=hL.var;rw[gQ]at i6;have rq:im T [[43],[45],[94]] x.s=(bB T 7 x.s&&decide ((aJ T x.s).t∈[[43],[45],[94]])):=rfl;simp only[go_sem,simprocAttr,az hL.hn,aF hL.hn,aE hL.hn,aG hL.hn,hL.hn,hL.hn];refine⟨_,bP.refl _,?_⟩;simp only[go_sem,simprocAttr,az hL.hn,aF hL.hn,aE hL.hn,aG hL.hn,hL.hn,hL.hn,i0];refine aQ ((iY (most:=most) 7).chain kh hL.ok) (bP.refl _) ?_;cases h7:bB T 7 x.s
  ·have hg:im T [[43],[45],[94]] x.s=false:=by rw[rq,h7];rfl
   have hx:=hL.stop hg;rw[hx];have hz:∀o,(x.A.set 2 o)[2]?=some o:=fun o=>bg i2
   simp only[go_sem,simprocAttr,az hL.hn,aF hL.hn,aE hL.hn,aG hL.hn,hL.hn,hL.hn,h7,i6,i2,hz];rw[gQ]at hE;exact⟨_,x.H,_,u,rfl,rfl,hL.kp,hE.q hL.hn hp fun i sz ver rs hi=>aU hi (by rintro rfl;rw[i2]at hi;cases hi)⟩
  simp only[go_sem,simprocAttr,az hL.hn,aF hL.hn,aE hL.hn,aG hL.hn,hL.hn,hL.hn,h7,i5,i0];refine aQ ((lE (most:=most)).chain kh hL.ok) (bP.refl _) ?_;simp only[go_sem,simprocAttr,az hL.hn,aF hL.hn,aE hL.hn,aG hL.hn,hL.hn,hL.hn,Tok.cells];refine U (rZ (L:=[[43],[45],[94]]) (by rw[az hL.hn];exact i3) (by decide)) ?_;cases wT:decide ((aJ T x.s).t∈[[43],[45],[94]])
  ·have hg:im T [[43],[45],[94]] x.s=false:=by rw[rq,h7,wT];rfl
   have hx:=hL.stop hg;rw[hx];have hz:∀o,(x.A.set 2 o)[2]?=some o:=fun o=>bg i2
   simp only[go_sem,simprocAttr,az hL.hn,aF hL.hn,aE hL.hn,aG hL.hn,hL.hn,hL.hn,wT,i6,i2,hz];rw[gQ]at hE;exact⟨_,x.H,_,u,rfl,rfl,hL.kp,hE.q hL.hn hp fun i sz ver rs hi=>aU hi (by rintro rfl;rw[i2]at hi;cases hi)⟩
  have hg:im T [[43],[45],[94]] x.s=true:=by rw[rq,h7,wT];rfl
  have hk7:=(qF h7).2;have dJ:=hL.ok.aI hT (show(aJ T x.s).k≠8 by omega);rcases ez:side (aI x.s)with⟨⟨k3,n3,u3,t3,q3,l3,m3⟩,s3⟩
  have eL:=dJ.run sS;have cJ:=(gU.aI hT sS hL.ok.1 (show(aJ T x.s).k≠8 by omega)).1;rw[ez]at eL cJ
  have hm:(fun a=>eI T fun t=>bT (aH side fun b=>aT (node2 14 t.t t.p a b))) x.a x.s=(node2 14 (aJ T x.s).t (aJ T x.s).p x.a (.mk k3 n3 u3 t3 q3 l3 m3),s3):=by
   simp only[bN,bT];rw[aP,ez];rfl
  obtain⟨H2,cs2,bh,oe,og,zF,ix,_,call2⟩:=(hC p n (n+1)).use aa.wf ez hL.hn hp hb dJ hL.fr (hL.FX oN hg w4 hm);obtain⟨c2,b2,rfl⟩:=(ix u _ _ x.A SM (hE.q hL.hn hp fun _ _ _ _ h=>h)).fH hE.len;simp only[go_sem,simprocAttr,az hL.hn,aF hL.hn,aE hL.hn,aG hL.hn,hL.hn,hL.hn,wT,i0];refine U (lE x.H _ p x.s kh hL.ok) ?_;simp only[go_sem,simprocAttr,az hL.hn,aF hL.hn,aE hL.hn,aG hL.hn,hL.hn,hL.hn,Tok.cells,i0,ay i0 _,FV hL.hn,vW hL.hn,mn kh,qq kh,jC,di];refine⟨_,gS hL.hn _ _ _,?_⟩;simp only[go_sem,simprocAttr,az hL.hn,aF hL.hn,aE hL.hn,aG hL.hn,hL.hn,hL.hn,i6,ay i6 _];refine jy rfl ?_;refine aR _ _ (qJ bh hL.hn _ _ _) (gS bh _ _ _) (gu call2 _ fun A'=>⟨pW,kJ,by rw[<-hL.hn,gq];exact ay (ay i0 _) _,by rw[<-hL.hn,fU];exact ay (ay i1 _) _⟩) ?_;have hz:∀B o,((x.A++B).set 6 o)[6]?=some o:=fun B o=>bg (ay i6 B)
  simp only[go_sem,simprocAttr,az bh,aF bh,aE bh,aG bh,bh,bh,FV bh,vW bh,Nat.add_zero,ay i6 _]
  exact⟨⟨x.j-1,s3,node2 14 (aJ T x.s).t (aJ T x.s).p x.a (.mk k3 n3 u3 t3 q3 l3 m3),[iV 14,sV (aJ T x.s).t,iV 0,sV [],iV (aJ T x.s).p,.gs (n+(x.A.length+1)) 0 0 2,.p .nl],H2,_,x.M-nC (aa.tv (.mk k3 n3 u3 t3 q3 l3 m3))⟩,
   ⟨⟨hL.next (s0:=aI x.s) hp hb oN hg w4 hm eL cJ bh oe og rfl ix (fun i o hi ho=>aU (ay ho _) (by omega)) (hz _ _) (by rw[List.getElem?_set_ne (by have:=bj i6;omega),<-gQ,fU];rfl) (Nat.le_add_right _ _),fun i o hi ho=>aU (ay (hI i o hi ho) _) (by omega)⟩,rfl⟩,by have h1:x.s.i<s3.i:=cJ;have:=hL.ok.1;simp only;omega⟩
end
section
variable {T:List Tok} {most e:Nat} (hT:bL T) (aO:T.length<=1073741825)
include hT aO
theorem SN {d:Nat} {side:PM aa} (hC:FY T most e d 162 side) (sS:ab T side):iu T most e 120 [iV 1,iV d] (aH side (fj T (fun s=>aL T [61] s||aL T [60] s) side)) aa.tv:=by
 refine ig fun p K b n s hn hp hb hs hF=>?_
 have bW:p<K.length:=by omega
 refine call120 (by simp) ?_;simp only[go_sem,simprocAttr,az hn,aF hn,aE hn,aG hn,hn,hn,FP,Kr];rcases hq:side s with⟨⟨k1,n1,u1,t1,q1,l1,m1⟩,s1⟩
 have bG:=hs.run sS;rw[hq]at bG;simp only at bG;have e0:aH side (fj T (fun s=>aL T [61] s||aL T [60] s) side) s=fj T (fun s=>aL T [61] s||aL T [60] s) side (.mk k1 n1 u1 t1 q1 l1 m1) s1:=by rw[aP,hq]
 rw[e0]at hF⊢
 have gH:nC (aa.tv (.mk k1 n1 u1 t1 q1 l1 m1))<=nC (fj T (fun s=>aL T [61] s||aL T [60] s) side (.mk k1 n1 u1 t1 q1 l1 m1) s1).1.tv:=by
  unfold fj bm;rw[bN];split
  ·show _<=nC (node2 14 _ _ _ _).tv
   rw[kF];omega
  ·exact Nat.le_refl _
 have pW:n≠p:=by omega
 have kJ:n+1≠p:=by omega
 obtain⟨H1,cs1,ar,dV,fB,lI,_,cE,cb⟩:=(hC p n (n+1)).use aa.wf hq hn hp hb hs hF gH;refine U (cb _ ⟨pW,kJ,by rw[<-hn,gq];rfl,by rw[<-hn,fU];rfl⟩) ?_;have cV:=fun A A'=>cE [] [] A A' (Env.nil _ _ _)
 obtain⟨c1,b1,rfl⟩:=(cV [] []).fH rfl;have FZ:p<H1.length:=by omega
 simp only[go_sem,simprocAttr,az ar,aF ar,aE ar,aG ar,ar,ar];refine U (lE H1 _ p s1 FZ bG) ?_;simp only[go_sem,simprocAttr,az ar,aF ar,aE ar,aG ar,ar,ar,Tok.cells];intro _;generalize Cz:aJ T s1=t at *;obtain⟨tk,tt,tn,tp⟩:=t
 have hNj:∀j,j<2->([[.p (.s [61])],[.p (.s [60])]]:List (List AV))[j]?=some [sV (([[61],[60]]:List (List UInt8)).getD j [])]:=fun j hj=>by
  match j,hj with
  |0,_=>rfl
  |1,_=>rfl
 refine⟨Nat,[0,1,3,6,8,9,10,27,28,29],fun j st=>(j<=2/\∀i,i<j->aL T (([[61],[60]]:List (List UInt8)).getD i []) s1=false)/\st=⟨[(0,.ptr p 0),(1,iV 1),(3,.ptr n 0),(6,.ptr (n+2) 0),(8,.fI 162 [.ptr n 0,.ptr (n+1) 0]),(9,.ptr (n+6) 0),(10,.ptr (n+7) 0),(27,.gs (n+4) 0 0 2),(28,iV 2),(29,iV (j:Nat))],[],
  H1.set p (db T most s1)++[.var [.ptr p 0],.var [iV d],.var [iV 0,sV [],iV 0,sV [],iV 0,.p .nl,.p .nl],.rows 1 0 ([[58,61]].map fun x=>[.p (.s x)]),.rows 1 0 ([[61],[60]].map fun x=>[.p (.s x)]),.rows 1 0 [[.gs (n+3) 0 0 1],[.gs (n+4) 0 0 2]],.var [iV k1,sV n1,iV u1,sV t1,iV q1,c1,b1],.var [iV tk,sV tt,iV tn,iV tp]]⟩,fun j=>2-j,⟨0,?_⟩,?_⟩
 ·exact⟨⟨Nat.zero_le _,fun i hi=>absurd hi (by omega)⟩,rfl⟩
 ·rintro j _ ⟨⟨hj,lb⟩,rfl⟩
  have HS:wr .i64 ((j:Int)+1)=((j+1:Nat):Int):=bp _ (by omega);by_cases aj:j<2
  ·have d1:decide ((j:Int)<2)=true:=by simp;omega
   simp only[go_sem,simprocAttr,az ar,aF ar,aE ar,aG ar,ar,ar,d1,hNj j aj,Option.map_some];refine⟨by omega,?_⟩;generalize hw:([[61],[60]]:List (List UInt8)).getD j []=w at *;refine U (iq aO w H1 _ p s1 FZ bG) ?_;unfold dm;cases hg:aL T w s1
   ·simp only[go_sem,simprocAttr,az ar,aF ar,aE ar,aG ar,ar,ar,hg,HS]
    exact⟨j+1,⟨⟨aj,fun i hi=>by
     rcases Nat.lt_or_ge i j with h|h
     ·exact lb i h
     ·obtain rfl:i=j:=by omega
      rw[hw];exact hg⟩,rfl⟩,by omega⟩
   ·have yf:((fun s=>aL T [61] s||aL T [60] s)) s1=true:=by
     match j,aj,hw with
     |0,_,hw=>obtain rfl:[61]=w:=hw;simp[hg]
     |1,_,hw=>obtain rfl:[60]=w:=hw;simp[hg]
    have SK:tt=w:=by simp[aL,Cz]at hg;exact hg.2
    subst SK;have dJ:=bG.aI hT (cH hg).2;rcases ez:side (aI s1)with⟨⟨k3,n3,u3,t3,q3,l3,m3⟩,s3⟩
    have e1:fj T (fun s=>aL T [61] s||aL T [60] s) side (.mk k1 n1 u1 t1 q1 l1 m1) s1=(node2 14 tt tp (.mk k1 n1 u1 t1 q1 l1 m1) (.mk k3 n3 u3 t3 q3 l3 m3),s3):=by
     unfold fj;rw[bN,aS yf,aP,ez,Cz];rfl
    rw[e1]at fB⊢;simp only[kF]at fB;obtain⟨H2,cs2,bh,oe,og,zF,_,ix,call2⟩:=(hC p n (n+1)).use aa.wf ez ar hp hb dJ fB (by omega);have mm:=fun A'=>ix _ _ [] A' (Env.base (cV [] []) ar hp)
    obtain⟨c2,b2,rfl⟩:=(mm []).fH rfl;simp only[go_sem,simprocAttr,az ar,aF ar,aE ar,aG ar,ar,ar,hg];refine⟨_,gS ar _ _ _,?_⟩;simp only[go_sem,simprocAttr,az ar,aF ar,aE ar,aG ar,ar,ar];refine jy rfl ?_;refine aR _ _ (qJ bh ar _ _ _) (gS bh _ _ _) (gu call2 _ fun A'=>⟨pW,kJ,by rw[<-ar,gq];rfl,by rw[<-ar,fU];rfl⟩) ?_;simp only[go_sem,simprocAttr,az bh,aF bh,aE bh,aG bh,bh,bh,Nat.add_zero];exact⟨_,H2,_,_,rfl,rfl,dV.trans oe,iO (Env.node (rows:=[aa.tv (.mk k1 n1 u1 t1 q1 l1 m1),aa.tv (.mk k3 n3 u3 t3 q3 l3 m3)]) (rs:=[[iV k1,sV n1,iV u1,sV t1,iV q1,c1,b1],[iV k3,sV n3,iV u3,sV t3,iV q3,c2,b2]]) (u:=n) (by simpa using mm _) (by rw[az bh];rfl) (by omega) (by omega) rfl (by intro r hr;simp at hr;rcases hr with rfl|rfl<;>exact aa.cm _) (by intro r hr;simp at hr;rcases hr with rfl|rfl<;>rfl) (by simp))⟩
  ·obtain rfl:j=2:=by omega
   have SL:((fun s=>aL T [61] s||aL T [60] s)) s1=false:=by
    simp only[show aL T [61] s1=false from lb 0 (by omega),show aL T [60] s1=false from lb 1 (by omega)];rfl
   have e1:fj T (fun s=>aL T [61] s||aL T [60] s) side (.mk k1 n1 u1 t1 q1 l1 m1) s1=(.mk k1 n1 u1 t1 q1 l1 m1,s1):=by
    unfold fj;rw[bN,aZ SL];rfl
   rw[e1];simp only[go_sem,simprocAttr,az ar,aF ar,aE ar,aG ar,ar,ar];exact⟨_,H1,_,n,rfl,rfl,dV,cV [] _⟩
theorem SO {d:Nat} {side:PM aa} (hC:FY T most e d 164 side) (sS:ab T side):iu T most e 120 [iV 0,iV d] (aH side (fj T (aL T [58,61]) side)) aa.tv:=by
 refine ig fun p K b n s hn hp hb hs hF=>?_
 have bW:p<K.length:=by omega
 refine call120 (by simp) ?_;simp only[go_sem,simprocAttr,az hn,aF hn,aE hn,aG hn,hn,hn,FP,Kr];rcases hq:side s with⟨⟨k1,n1,u1,t1,q1,l1,m1⟩,s1⟩
 have bG:=hs.run sS;rw[hq]at bG;simp only at bG;have e0:aH side (fj T (aL T [58,61]) side) s=fj T (aL T [58,61]) side (.mk k1 n1 u1 t1 q1 l1 m1) s1:=by rw[aP,hq]
 rw[e0]at hF⊢
 have gH:nC (aa.tv (.mk k1 n1 u1 t1 q1 l1 m1))<=nC (fj T (aL T [58,61]) side (.mk k1 n1 u1 t1 q1 l1 m1) s1).1.tv:=by
  unfold fj bm;rw[bN];split
  ·show _<=nC (node2 14 _ _ _ _).tv
   rw[kF];omega
  ·exact Nat.le_refl _
 have pW:n≠p:=by omega
 have kJ:n+1≠p:=by omega
 obtain⟨H1,cs1,ar,dV,fB,lI,_,cE,cb⟩:=(hC p n (n+1)).use aa.wf hq hn hp hb hs hF gH;refine U (cb _ ⟨pW,kJ,by rw[<-hn,gq];rfl,by rw[<-hn,fU];rfl⟩) ?_;have cV:=fun A A'=>cE [] [] A A' (Env.nil _ _ _)
 obtain⟨c1,b1,rfl⟩:=(cV [] []).fH rfl;have FZ:p<H1.length:=by omega
 simp only[go_sem,simprocAttr,az ar,aF ar,aE ar,aG ar,ar,ar];refine U (lE H1 _ p s1 FZ bG) ?_;simp only[go_sem,simprocAttr,az ar,aF ar,aE ar,aG ar,ar,ar,Tok.cells];intro _;generalize Cz:aJ T s1=t at *;obtain⟨tk,tt,tn,tp⟩:=t
 have hNj:∀j,j<1->([[.p (.s [58,61])]]:List (List AV))[j]?=some [sV (([[58,61]]:List (List UInt8)).getD j [])]:=fun j hj=>by
  match j,hj with
  |0,_=>rfl
 refine⟨Nat,[0,1,3,6,8,9,10,27,28,29],fun j st=>(j<=1/\∀i,i<j->aL T (([[58,61]]:List (List UInt8)).getD i []) s1=false)/\st=⟨[(0,.ptr p 0),(1,iV 0),(3,.ptr n 0),(6,.ptr (n+2) 0),(8,.fI 164 [.ptr n 0,.ptr (n+1) 0]),(9,.ptr (n+6) 0),(10,.ptr (n+7) 0),(27,.gs (n+3) 0 0 1),(28,iV 1),(29,iV (j:Nat))],[],
  H1.set p (db T most s1)++[.var [.ptr p 0],.var [iV d],.var [iV 0,sV [],iV 0,sV [],iV 0,.p .nl,.p .nl],.rows 1 0 ([[58,61]].map fun x=>[.p (.s x)]),.rows 1 0 ([[61],[60]].map fun x=>[.p (.s x)]),.rows 1 0 [[.gs (n+3) 0 0 1],[.gs (n+4) 0 0 2]],.var [iV k1,sV n1,iV u1,sV t1,iV q1,c1,b1],.var [iV tk,sV tt,iV tn,iV tp]]⟩,fun j=>1-j,⟨0,?_⟩,?_⟩
 ·exact⟨⟨Nat.zero_le _,fun i hi=>absurd hi (by omega)⟩,rfl⟩
 ·rintro j _ ⟨⟨hj,lb⟩,rfl⟩
  have HS:wr .i64 ((j:Int)+1)=((j+1:Nat):Int):=bp _ (by omega);by_cases aj:j<1
  ·have d1:decide ((j:Int)<1)=true:=by simp;omega
   simp only[go_sem,simprocAttr,az ar,aF ar,aE ar,aG ar,ar,ar,d1,hNj j aj,Option.map_some];refine⟨by omega,?_⟩;generalize hw:([[58,61]]:List (List UInt8)).getD j []=w at *;refine U (iq aO w H1 _ p s1 FZ bG) ?_;unfold dm;cases hg:aL T w s1
   ·simp only[go_sem,simprocAttr,az ar,aF ar,aE ar,aG ar,ar,ar,hg,HS]
    exact⟨j+1,⟨⟨aj,fun i hi=>by
     rcases Nat.lt_or_ge i j with h|h
     ·exact lb i h
     ·obtain rfl:i=j:=by omega
      rw[hw];exact hg⟩,rfl⟩,by omega⟩
   ·have yf:((aL T [58,61])) s1=true:=by
     match j,aj,hw with
     |0,_,hw=>obtain rfl:[58,61]=w:=hw;exact hg
    have SK:tt=w:=by simp[aL,Cz]at hg;exact hg.2
    subst SK;have dJ:=bG.aI hT (cH hg).2;rcases ez:side (aI s1)with⟨⟨k3,n3,u3,t3,q3,l3,m3⟩,s3⟩
    have e1:fj T (aL T [58,61]) side (.mk k1 n1 u1 t1 q1 l1 m1) s1=(node2 14 tt tp (.mk k1 n1 u1 t1 q1 l1 m1) (.mk k3 n3 u3 t3 q3 l3 m3),s3):=by
     unfold fj;rw[bN,aS yf,aP,ez,Cz];rfl
    rw[e1]at fB⊢;simp only[kF]at fB;obtain⟨H2,cs2,bh,oe,og,zF,_,ix,call2⟩:=(hC p n (n+1)).use aa.wf ez ar hp hb dJ fB (by omega);have mm:=fun A'=>ix _ _ [] A' (Env.base (cV [] []) ar hp)
    obtain⟨c2,b2,rfl⟩:=(mm []).fH rfl;simp only[go_sem,simprocAttr,az ar,aF ar,aE ar,aG ar,ar,ar,hg];refine⟨_,gS ar _ _ _,?_⟩;simp only[go_sem,simprocAttr,az ar,aF ar,aE ar,aG ar,ar,ar];refine jy rfl ?_;refine aR _ _ (qJ bh ar _ _ _) (gS bh _ _ _) (gu call2 _ fun A'=>⟨pW,kJ,by rw[<-ar,gq];rfl,by rw[<-ar,fU];rfl⟩) ?_;simp only[go_sem,simprocAttr,az bh,aF bh,aE bh,aG bh,bh,bh,Nat.add_zero];exact⟨_,H2,_,_,rfl,rfl,dV.trans oe,iO (Env.node (rows:=[aa.tv (.mk k1 n1 u1 t1 q1 l1 m1),aa.tv (.mk k3 n3 u3 t3 q3 l3 m3)]) (rs:=[[iV k1,sV n1,iV u1,sV t1,iV q1,c1,b1],[iV k3,sV n3,iV u3,sV t3,iV q3,c2,b2]]) (u:=n) (by simpa using mm _) (by rw[az bh];rfl) (by omega) (by omega) rfl (by intro r hr;simp at hr;rcases hr with rfl|rfl<;>exact aa.cm _) (by intro r hr;simp at hr;rcases hr with rfl|rfl<;>rfl) (by simp))⟩
  ·obtain rfl:j=1:=by omega
   have SL:((aL T [58,61])) s1=false:=by
    exact lb 0 (by omega)
   have e1:fj T (aL T [58,61]) side (.mk k1 n1 u1 t1 q1 l1 m1) s1=(.mk k1 n1 u1 t1 q1 l1 m1,s1):=by
    unfold fj;rw[bN,aZ SL];rfl
   rw[e1];simp only[go_sem,simprocAttr,az ar,aF ar,aE ar,aG ar,ar,ar];exact⟨_,H1,_,n,rfl,rfl,dV,cV [] _⟩
end
section
variable {T:List Tok} {most e:Nat} (hT:bL T) (aO:T.length<=1073741825)
include hT aO
theorem XV {d:Nat} (hd:d<=1099511627776) {ex:PM aa} (hP:iu T most e 55 [iV (d+1:Nat)] ex aa.tv) (sP:ab T ex):iu T most e 120 [iV 0,iV d] (uZ T T.length ex) aa.tv:=by
 have h1:=N9 (ady hT aO hd hP sP);have h2:=Oa (XT hT aO h1 (Pg.po hT sP));have h3:=KN (XU hT aO h2 (Pg.nE hT sP));have h4:=KO (SN hT aO h3 (Pg.nF hT sP));exact SO hT aO h4 (Pg.lQ hT sP)
end
theorem MN (A:List AO) (i:Nat) (o:AO) (B:List AO):(A.set i o++B)[A.length]?=B[0]?:=by
 have:=gq (A.set i o) B;rwa[List.length_set]at this
theorem KQ {J:St->Prop} {L T':En} {d:MD} {bytes n p sz:Nat} {N:List Nat} {c0 c:AO} {H H1 A B:List AO} {a:AV} {rs:List (List AV)} {y:List AV} (hn:H.length=n) (ar:H1.length=n) (kU:jr (H.set p c0++A) a sz rs) (B8:∀id v o m,a=.gs id v o m->n<=id/\id-n∉N) (xA:∀k∈N,k<A.length) (hl:rs.length<=1073741826) (hB:∀(k:Nat) (o:AO),A[k]?=some o->B[k]?=some o) (RR:bytes<=1000)
  (k:∀id ver A',(H1.set p c++A')[id]?=some (.rows sz ver (rs++[y]))->(n<=id/\id-n∉N)->(∀k:Nat,k∈N->A'[k]?=A[k]?)->J (St.put ⟨L,T',H1.set p c++A'⟩ d (.gs id ver 0 (rs.length+1)))):
  mu sz bytes a [y] d J ⟨L,T',H1.set p c++B⟩:=by
 have RS:∀k∈N,k<B.length:=fun k hk=>by
  have RT:=xA k hk;exact bj (hB k A[k] (by simp[RT]))
 have adz:∀id v o m,a=.gs id v o m->H1.length<=id/\id-H1.length∉N:=by rw[ar];exact B8
 have adA:jr (H1.set p c++B) a sz rs:=by
  rcases kU with h1|⟨id,ver,e1,h1⟩
  ·exact .inl h1
  ·obtain⟨q1,q2⟩:=B8 _ _ _ _ e1
   obtain⟨q,rfl⟩:=Nat.le.dest q1;rw[az hn]at h1;exact .inr ⟨_,ver,e1,by rw[az ar];exact hB _ _ h1⟩
 refine Ke (rs:=rs) (ys:=[y]) adA RS adz (by simp;exact Nat.le_trans (Nat.mul_le_mul (show rs.length+1<=1073741827 by omega) RR) (by decide)) (by simp;omega) ?_;intro id ver A' k1 k2 k3;rw[ar]at k2;refine k id ver A' k1 k2 (fun j hj=>?_);rw[k3 j hj];have me:=xA j hj;rw[hB j A[j] (by simp[me])];simp[me]
structure LA (pv:PS->AO) (T:List Tok) (e b n p:Nat) (K:List AO) (N:List Nat) (Dw:List TV) (CB:List AV) (arm:PM al) (Rl:List al) (Rs:PS) (x:LG al):Prop where
 ok:Ok T e x.s
 ln:x.acc.length<=x.s.i
 fu:T.length-x.s.i<=x.j
 c0:x.s.c=0
 rl:x.acc++((arm x.s).1::(many (aL T [124]) (bT arm) x.j (arm x.s).2).1)=Rl
 re:(many (aL T [124]) (bT arm) x.j (arm x.s).2).2=Rs
 hn:x.H.length=n
 kp:Kp b K x.H
 fr:∃M,Fr b x.H M/\nC (arm x.s).1.tv+nR ((many (aL T [124]) (bT arm) x.j (arm x.s).2).1.map al.tv)<=M
 env:Env b n (x.H.set p (pv x.s)++x.A) (Dw++(x.acc.map al.tv).flatten) (CB++x.rs.flatten)
 len:x.rs.length=x.acc.length
 sz1:∀r∈x.rs,r.length=12
 own:jr (x.H.set p (pv x.s)++x.A) x.a 12 x.rs
 ids:∀id v o m,x.a=.gs id v o m->n<=id/\id-n∉N
 nm:∀k∈N,k<x.A.length
section
variable {pv:PS->AO} {T:List Tok} {e b n p:Nat} {K:List AO} {N:List Nat} {Dw:List TV} {CB:List AV} {arm:PM al} {Rl:List al} {Rs:PS}
theorem LA.start {H A:List AO} {s:PS} {M:Nat} (hs:Ok T e s) (h0:s.c=0) (h:pf T T.length arm s=(Rl,Rs)) (hn:H.length=n) (hk:Kp b K H) (hF:Fr b H M) (hM:nR (Rl.map al.tv)<=M) (hE:Env b n (H.set p (pv s)++A) Dw CB) (hb:∀k∈N,k<A.length):LA pv T e b n p K N Dw CB arm Rl Rs ⟨T.length,s,[],[],.p .nl,H,A⟩:=by
 have h1:(arm s).1::(many (aL T [124]) (bT arm) T.length (arm s).2).1=Rl:=by have:=congrArg Prod.fst h;exact this
 have h2:(many (aL T [124]) (bT arm) T.length (arm s).2).2=Rs:=by have:=congrArg Prod.snd h;exact this
 refine⟨hs,Nat.zero_le _,by simp only;omega,h0,h1,h2,hn,hk,⟨M,hF,?_⟩,by simpa using hE,rfl,by simp,.inl ⟨rfl,rfl⟩,(fun _ _ _ _ e=>by cases e),hb⟩;rw[<-h1]at hM;simpa[nR]using hM
theorem LA.stop {x:LG al} (h:LA pv T e b n p K N Dw CB arm Rl Rs x) {y:al} {s2:PS} (hm:arm x.s=(y,s2)) (hg:aL T [124] s2=false):x.acc++[y]=Rl/\s2=Rs:=by
 have h1:=h.rl;have h2:=h.re;rw[hm]at h1 h2;rw[kD hg]at h1 h2;exact⟨h1,h2⟩
theorem LA.room {x:LG al} (h:LA pv T e b n p K N Dw CB arm Rl Rs x) {y:al} {s2:PS} (hm:arm x.s=(y,s2)):∃M,Fr b x.H M/\nC y.tv+nR ((many (aL T [124]) (bT arm) x.j s2).1.map al.tv)<=M:=by
 obtain⟨M,h1,h2⟩:=h.fr;rw[hm]at h2;exact⟨M,h1,h2⟩
theorem LA.EB {x:LG al} (h:LA pv T e b n p K N Dw CB arm Rl Rs x) {s2:PS} {H1 A' A'':List AO} {id ver:Nat} {cs:List AV} (ar:H1.length=n) (k1:(H1.set p (pv s2)++A')[id]?=some (.rows 12 ver (x.rs++[cs]))) (k2:n<=id/\id-n∉N) (k3:∀(k:Nat) (o:AO),k∉N->A'[k]?=some o->A''[k]?=some o) (c:AO):(H1.set p c++A'')[id]?=some (.rows 12 ver (x.rs++[cs])):=by
 obtain⟨q,hq⟩:=Nat.le.dest k2.1;subst hq;rw[az ar]at k1⊢;exact k3 _ _ (by have:=k2.2;rwa[Nat.add_sub_cancel_left]at this) k1
theorem LA.next (hT:bL T) {x:LG al} (h:LA pv T e b n p K N Dw CB arm Rl Rs x) {y:al} {s2:PS} (hm:arm x.s=(y,s2)) (bD:Ok T e s2) (gH:x.s.i<=s2.i) (hg:aL T [124] s2=true) {H1 A' A'':List AO} {M id ver:Nat} {cs:List AV} (ar:H1.length=n) (dV:Kp b x.H H1) (fB:Fr b H1 M) (hM:nR ((many (aL T [124]) (bT arm) x.j s2).1.map al.tv)<=M)
  (cE:Env b n (H1.set p (pv (aI s2))++A'') (Dw++(x.acc.map al.tv).flatten++y.tv) (CB++x.rs.flatten++cs)) (gQ:cs.length=12)
  (k1:(H1.set p (pv s2)++A')[id]?=some (.rows 12 ver (x.rs++[cs]))) (k2:n<=id/\id-n∉N) (k3:∀(k:Nat) (o:AO),k∉N->A'[k]?=some o->A''[k]?=some o) (k4:∀k∈N,k<A''.length):
  LA pv T e b n p K N Dw CB arm Rl Rs ⟨x.j-1,aI s2,x.acc++[y],x.rs++[cs],.gs id ver 0 (x.rs.length+1),H1,A''⟩:=by
 have hk:=cH hg;have hfu:=h.fu;have hix:=h.ok.1;obtain⟨j',hj⟩:∃j',x.j=j'+1:=⟨x.j-1,by omega⟩;have h1:=h.rl;have h2:=h.re;rw[hm]at h1 h2;simp only[hj,many,if_pos hg]at h1 h2 hM;have e1:∀s,bT arm s=arm (aI s):=fun _=>rfl
 simp only[e1]at h1 h2 hM;have FJ:=h.ln;refine⟨bD.aI hT hk.2,by simp[aI];omega,by simp[aI];omega,hk.1,by simp only[hj,Nat.add_sub_cancel];simpa using h1,by simp only[hj,Nat.add_sub_cancel];exact h2,ar,h.kp.trans dV,⟨M,fB,by simp only[hj,Nat.add_sub_cancel];simpa[nR]using hM⟩,by simpa using cE,by simp[h.len],?_,.inr ⟨id,ver,by simp,h.EB ar k1 k2 k3 _⟩,(fun jm v o m' e=>by cases e;exact k2),k4⟩;intro r hr;rcases List.mem_append.1 hr with hr|hr
 ·exact h.sz1 r hr
 ·simp at hr;rw[hr];exact gQ
end
theorem KR {b u:Nat} {X:List AO} {k:Int} {nm:List UInt8} {un:Int} {t:List UInt8} {q:Int} {l:List aa} {aM:List al} {a a':AV} (h:Env b u X [.s 7 (l.map aa.tv),.s 12 (aM.map al.tv)] [a,a']):Env b u X (aa.tv (.mk k nm un t q l aM)) [iV k,sV nm,iV un,sV t,iV q,a,a']:=by
 rw[aa.tv,aa.oG,aa.ML];exact((((h.pc _).pc _).pc _).pc _).pc _
theorem rows2 {b u n q:Nat} {X:List AO} {x y:aa} {c1 c2:List AV} {ver:Nat} (h:Env b u X (x.tv++y.tv) (c1++c2)) (l1:c1.length=7) (l2:c2.length=7) (hi:X[n+q]?=some (.rows 7 ver [c1,c2])) (hu:u<=n) (hb:b<=n):Env b (n+q+1) X [.s 7 ([x,y].map aa.tv)] [.gs (n+q) ver 0 2]:=
 Env.node (rows:=[x.tv,y.tv]) (rs:=[c1,c2]) (by simpa using h) hi (by omega) (by omega) rfl (by intro r hr;simp at hr;rcases hr with rfl|rfl<;>exact aa.cm _) (by intro r hr;simp at hr;rcases hr with rfl|rfl<;>assumption) (by simp)
theorem adB {b u n q:Nat} {X:List AO} {x y z:aa} {c1 c2 c3:List AV} {ver:Nat} (h:Env b u X (x.tv++y.tv++z.tv) (c1++c2++c3)) (l1:c1.length=7) (l2:c2.length=7) (l3:c3.length=7) (hi:X[n+q]?=some (.rows 7 ver [c1,c2,c3])) (hu:u<=n) (hb:b<=n):Env b (n+q+1) X [.s 7 ([x,y,z].map aa.tv)] [.gs (n+q) ver 0 3]:=
 Env.node (rows:=[x.tv,y.tv,z.tv]) (rs:=[c1,c2,c3]) (by simpa[List.append_assoc]using h) hi (by omega) (by omega) rfl (by intro r hr;simp at hr;rcases hr with rfl|rfl|rfl<;>exact aa.cm _) (by intro r hr;simp at hr;rcases hr with rfl|rfl|rfl<;>assumption) (by simp)
section
variable {T:List Tok} {most e:Nat} (hT:bL T) (aO:T.length<=1073741825)
include hT aO
theorem adC {d:Nat} (hd:d<=1099511627776) {pat:PM ae} {ex:PM aa} (SP:d<=most->iu T most e 119 [iV (d+1:Nat)] pat ae.tv) (Au:ab T pat) (hP:d<=most->iu T most e 55 [iV (d+1:Nat)] ex aa.tv) (sP:ab T ex):iu T most e 55 [iV d] (Cd T T.length most pat ex d) aa.tv:=by
 refine ig fun p K b n s hn hp hb hs hF=>?_
 have bW:p<K.length:=by omega
 have pW:n≠p:=by omega
 have kJ:n+1≠p:=by omega
 have od:wr .i64 ((d:Int)+1)=((d+1:Nat):Int):=bp _ (by omega);refine call55 (by simp) ?_;simp only[go_sem,simprocAttr,az hn,aF hn,aE hn,aG hn,hn,hn,Sc,abc];refine U (Cx d K _ p s bW hs) ?_;have bG:=CA (most:=most) (d:=d) hT aO hs;unfold Cd kO at hF⊢;cases hc:decide ((cT T most d s).c=0)
 ·rw[if_neg (of_decide_eq_false hc)]
  simp only[go_sem,simprocAttr,az hn,aF hn,aE hn,aG hn,hn,hn,hc,Bool.not_false,Bool.not_true];exact⟨_,K,_,0,rfl,rfl,Kp.rfl,iN _ _ _ _ _ _ _ _⟩
 have AT:=of_decide_eq_true hc;have hO:=XV hT aO hd (hP (uu hT aO AT)) sP;have hC:=KP hd (hP (uu hT aO AT));have SP:=SP (uu hT aO AT);rw[if_pos AT]at hF⊢;simp only[go_sem,simprocAttr,az hn,aF hn,aE hn,aG hn,hn,hn,hc,Bool.not_false,Bool.not_true];generalize cT T most d s=s1 at *;refine U (lE K _ p s1 bW bG) ?_;simp only[go_sem,simprocAttr,az hn,aF hn,aE hn,aG hn,hn,hn,Tok.cells];rw[bN]at hF⊢;generalize Cz:aJ T s1=t at *;obtain⟨tk,tt,tn,tp⟩:=t;simp only at hF⊢;refine U (iq aO [108,101,116] K _ p s1 bW bG) ?_;unfold dm;cases c1:aL T [108,101,116] s1;rotate_left
 ·rw[aS c1]at hF⊢
  have dJ:=bG.aI hT (cH c1).2;simp only[go_sem,simprocAttr,az hn,aF hn,aE hn,aG hn,hn,hn,c1];refine U (iq aO [114,101,99] K _ p _ bW dJ) ?_;unfold vT at hF⊢;unfold dm;cases c2:aL T [114,101,99] (aI s1)
  ·rw[aZ c2]at hF⊢
   have SQ:=dJ;simp only[go_sem,simprocAttr,az hn,aF hn,aE hn,aG hn,hn,hn,c2];refine U (wX aO 3 K _ p _ bW SQ) ?_;have bD:=SQ.run (ab.word hT (k:=3) (by decide));rcases ez:cZ T 3 (aI s1)with⟨w1,s2⟩
   rw[ez]at bD;simp only at bD;simp only[go_sem,simprocAttr,az hn,aF hn,aE hn,aG hn,hn,hn];refine U (ir hT aO [[61]] (by decide) bW bD (by omega) (fun c=>by rw[az hn];rfl)) ?_;have rp:=bD.step (aK hT [61]);simp only[go_sem,simprocAttr,az hn,aF hn,aE hn,aG hn,hn,hn,gh];rcases kE:ex (aX T [61] s2)with⟨⟨k5,n5,u5,t5,q5,l5,m5⟩,s5⟩
   have kR:=rp.run sP;rw[kE]at kR;simp only at kR;rcases yc:ex (aX T [105,110] s5)with⟨⟨k6,n6,u6,t6,q6,l6,m6⟩,s6⟩
   have ya:=kR.step (aK hT [105,110]);simp only[aP,da,ie,ez,kE,yc]at hF⊢;have pV:nC (aa.tv (.mk 10 w1 0 [] tp [.mk k5 n5 u5 t5 q5 l5 m5,.mk k6 n6 u6 t6 q6 l6 m6] []))=1+(nC (aa.tv (.mk k5 n5 u5 t5 q5 l5 m5))+nC (aa.tv (.mk k6 n6 u6 t6 q6 l6 m6))):=by rw[nh];simp[nK,nR]
   rw[pV]at hF;obtain⟨H5,XW,cM,F0,Ob,XX,_,yg,call5⟩:=(hC p n (n+1)).use aa.wf kE hn hp hb rp hF (by omega);have w6:=fun A'=>yg [] [] [] A' (Env.nil _ _ _)
   obtain⟨c5,b5,rfl⟩:=(w6 []).fH rfl;refine⟨_,gS hn _ _ _,?_⟩;simp only[go_sem,simprocAttr,az hn,aF hn,aE hn,aG hn,hn,hn];refine jy rfl ?_;refine aR _ _ (qJ cM hn _ _ _) (gS cM _ _ _) (gu call5 _ fun A'=>⟨pW,kJ,by rw[<-hn,gq];rfl,by rw[<-hn,fU];rfl⟩) ?_;simp only[go_sem,simprocAttr,az cM,aF cM,aE cM,aG cM,cM,cM,Nat.add_zero,Nat.add_assoc];have SS:p<H5.length:=by omega
   refine⟨by intro r hr;simp at hr;subst hr;rfl,?_⟩;refine U (ir hT aO [[105,110]] (by decide) SS kR (by omega) (fun c=>by rw[az cM];rfl)) ?_;simp only[go_sem,simprocAttr,az cM,aF cM,aE cM,aG cM,cM,cM,gh];obtain⟨H6,cs6,lX,SU,fr6,cl6,_,HU,call6⟩:=(hC p n (n+1)).use aa.wf yc cM hp hb ya Ob (by omega);have HV:=fun A'=>HU _ _ [] A' (Env.base (w6 []) cM hp)
   obtain⟨c6,b6,rfl⟩:=(HV []).fH rfl;refine⟨_,gS cM _ _ _,?_⟩;simp only[go_sem,simprocAttr,az cM,aF cM,aE cM,aG cM,cM,cM];refine jy rfl ?_;refine aR _ _ (qJ lX cM _ _ _) (gS lX _ _ _) (gu call6 _ fun A'=>⟨pW,kJ,by rw[<-cM,gq];rfl,by rw[<-cM,fU];rfl⟩) ?_;simp only[go_sem,simprocAttr,az lX,aF lX,aE lX,aG lX,lX,lX,Nat.add_zero,Nat.add_assoc];have abh:p<H6.length:=by omega
   refine⟨by intro r hr;simp at hr;subst hr;rfl,?_⟩;exact⟨_,H6,_,_,rfl,rfl,F0.trans SU,iO (rows2 (u:=n) (HV _) rfl rfl (by rw[az lX];rfl) (Nat.le_refl _) hb)⟩
  ·rw[aS c2]at hF⊢
   have SQ:=dJ.aI hT (cH c2).2;simp only[go_sem,simprocAttr,az hn,aF hn,aE hn,aG hn,hn,hn,c2];refine U (wX aO 3 K _ p _ bW SQ) ?_;have bD:=SQ.run (ab.word hT (k:=3) (by decide));rcases ez:cZ T 3 (aI (aI s1))with⟨w1,s2⟩
   rw[ez]at bD;simp only at bD;simp only[go_sem,simprocAttr,az hn,aF hn,aE hn,aG hn,hn,hn];refine U (wX aO 3 K _ p _ bW bD) ?_;have eL:=bD.run (ab.word hT (k:=3) (by decide));rcases fF:cZ T 3 s2 with⟨w2,s3⟩
   rw[fF]at eL;simp only at eL;simp only[go_sem,simprocAttr,az hn,aF hn,aE hn,aG hn,hn,hn];refine U (ir hT aO [[61]] (by decide) bW eL (by omega) (fun c=>by rw[az hn];rfl)) ?_;have rp:=eL.step (aK hT [61]);simp only[go_sem,simprocAttr,az hn,aF hn,aE hn,aG hn,hn,hn,gh];rcases kE:ex (aX T [61] s3)with⟨⟨k5,n5,u5,t5,q5,l5,m5⟩,s5⟩
   have kR:=rp.run sP;rw[kE]at kR;simp only at kR;rcases yc:ex (aX T [105,110] s5)with⟨⟨k6,n6,u6,t6,q6,l6,m6⟩,s6⟩
   have ya:=kR.step (aK hT [105,110]);simp only[aP,da,ie,ez,fF,kE,yc]at hF⊢;have pV:nC (aa.tv (.mk 11 w1 0 w2 tp [.mk k5 n5 u5 t5 q5 l5 m5,.mk k6 n6 u6 t6 q6 l6 m6] []))=1+(nC (aa.tv (.mk k5 n5 u5 t5 q5 l5 m5))+nC (aa.tv (.mk k6 n6 u6 t6 q6 l6 m6))):=by rw[nh];simp[nK,nR]
   rw[pV]at hF;obtain⟨H5,XW,cM,F0,Ob,XX,_,yg,call5⟩:=(hC p n (n+1)).use aa.wf kE hn hp hb rp hF (by omega);have w6:=fun A'=>yg [] [] [] A' (Env.nil _ _ _)
   obtain⟨c5,b5,rfl⟩:=(w6 []).fH rfl;refine⟨_,gS hn _ _ _,?_⟩;simp only[go_sem,simprocAttr,az hn,aF hn,aE hn,aG hn,hn,hn];refine jy rfl ?_;refine aR _ _ (qJ cM hn _ _ _) (gS cM _ _ _) (gu call5 _ fun A'=>⟨pW,kJ,by rw[<-hn,gq];rfl,by rw[<-hn,fU];rfl⟩) ?_;simp only[go_sem,simprocAttr,az cM,aF cM,aE cM,aG cM,cM,cM,Nat.add_zero,Nat.add_assoc];have SS:p<H5.length:=by omega
   refine⟨by intro r hr;simp at hr;subst hr;rfl,?_⟩;refine U (ir hT aO [[105,110]] (by decide) SS kR (by omega) (fun c=>by rw[az cM];rfl)) ?_;simp only[go_sem,simprocAttr,az cM,aF cM,aE cM,aG cM,cM,cM,gh];obtain⟨H6,cs6,lX,SU,fr6,cl6,_,HU,call6⟩:=(hC p n (n+1)).use aa.wf yc cM hp hb ya Ob (by omega);have HV:=fun A'=>HU _ _ [] A' (Env.base (w6 []) cM hp)
   obtain⟨c6,b6,rfl⟩:=(HV []).fH rfl;refine⟨_,gS cM _ _ _,?_⟩;simp only[go_sem,simprocAttr,az cM,aF cM,aE cM,aG cM,cM,cM];refine jy rfl ?_;refine aR _ _ (qJ lX cM _ _ _) (gS lX _ _ _) (gu call6 _ fun A'=>⟨pW,kJ,by rw[<-cM,gq];rfl,by rw[<-cM,fU];rfl⟩) ?_;simp only[go_sem,simprocAttr,az lX,aF lX,aE lX,aG lX,lX,lX,Nat.add_zero,Nat.add_assoc];have abh:p<H6.length:=by omega
   refine⟨by intro r hr;simp at hr;subst hr;rfl,?_⟩;exact⟨_,H6,_,_,rfl,rfl,F0.trans SU,iO (rows2 (u:=n) (HV _) rfl rfl (by rw[az lX];rfl) (Nat.le_refl _) hb)⟩
 rw[aZ c1]at hF⊢;simp only[go_sem,simprocAttr,az hn,aF hn,aE hn,aG hn,hn,hn,c1];refine U (iq aO [102,117,110] K _ p s1 bW bG) ?_;unfold dm;cases c2:aL T [102,117,110] s1;rotate_left
 ·rw[aS c2]at hF⊢
  have dJ:=bG.aI hT (cH c2).2;unfold xV at hF⊢;simp only[go_sem,simprocAttr,az hn,aF hn,aE hn,aG hn,hn,hn,c2];refine⟨_,gS hn _ _ _,?_⟩;simp only[go_sem,simprocAttr,az hn,aF hn,aE hn,aG hn,hn,hn];refine aR _ _ (by simp) (gS hn _ _ _) ((wX aO 3).chain bW dJ) ?_;have bD:=dJ.run (ab.word hT (k:=3) (by decide));rcases ez:cZ T 3 (aI s1)with⟨w1,s2⟩
  rw[ez]at bD;simp only at bD;simp only[go_sem,simprocAttr,az hn,aF hn,aE hn,aG hn,hn,hn,Nat.add_zero,Nat.add_assoc];refine U (ir hT aO [[45,62]] (by decide) bW bD (by omega) (fun c=>by rw[az hn];rfl)) ?_;have rn:=bD.step (aK hT [45,62]);simp only[go_sem,simprocAttr,az hn,aF hn,aE hn,aG hn,hn,hn,gh];rcases wU:ex (aX T [45,62] s2)with⟨⟨k4,n4,u4,t4,q4,l4,m4⟩,s4⟩
  simp only[aP,da,ie,ez,wU,node1]at hF⊢;have pV:nC (aa.tv (.mk 8 w1 0 [] tp [.mk k4 n4 u4 t4 q4 l4 m4] []))=1+nC (aa.tv (.mk k4 n4 u4 t4 q4 l4 m4)):=by rw[nh];simp[nK,nR]
  rw[pV]at hF;obtain⟨H4,cs4,kj,kp4,fr4,cl4,_,SV,call4⟩:=(hC p n (n+1)).use aa.wf wU hn hp hb rn hF (by omega);have SW:=fun A'=>SV [] [] [] A' (Env.nil _ _ _)
  obtain⟨c4,b4,rfl⟩:=(SW []).fH rfl;refine U (call4 _ ⟨pW,kJ,by rw[<-hn,gq];rfl,by rw[<-hn,fU];rfl⟩) ?_;simp only[go_sem,simprocAttr,az kj,aF kj,aE kj,aG kj,kj,kj,Nat.add_zero,Nat.add_assoc];have abi:p<H4.length:=by omega
  exact⟨_,H4,_,_,rfl,rfl,kp4,iO ((SW _).node1 (by rw[az kj];rfl) (by omega) (by omega) (aa.cm _))⟩
 rw[aZ c2]at hF⊢;simp only[go_sem,simprocAttr,az hn,aF hn,aE hn,aG hn,hn,hn,c2];refine U (iq aO [105,102] K _ p s1 bW bG) ?_;unfold dm;cases c3:aL T [105,102] s1;rotate_left
 ·rw[aS c3]at hF⊢
  have dJ:=bG.aI hT (cH c3).2;unfold Fs at hF⊢;simp only[go_sem,simprocAttr,az hn,aF hn,aE hn,aG hn,hn,hn,c3];rcases ez:ex (aI s1)with⟨⟨k2,n2,u2,t2,q2,l2,m2⟩,s2⟩
  have bD:=dJ.run sP;rw[ez]at bD;simp only at bD;have abj:=bD.step (aK hT [116,104,101,110]);rcases wU:ex (aX T [116,104,101,110] s2)with⟨⟨k4,n4,u4,t4,q4,l4,m4⟩,s4⟩
  have nJ:=abj.run sP;rw[wU]at nJ;simp only at nJ;have rp:=nJ.step (aK hT [101,108,115,101]);rcases yc:ex (aX T [101,108,115,101] s4)with⟨⟨k6,n6,u6,t6,q6,l6,m6⟩,s6⟩
  simp only[aP,da,ie,ez,wU,yc]at hF⊢;have pV:nC (aa.tv (.mk 12 [] 0 [] tp [.mk k2 n2 u2 t2 q2 l2 m2,.mk k4 n4 u4 t4 q4 l4 m4,.mk k6 n6 u6 t6 q6 l6 m6] []))=1+(nC (aa.tv (.mk k2 n2 u2 t2 q2 l2 m2))+(nC (aa.tv (.mk k4 n4 u4 t4 q4 l4 m4))+nC (aa.tv (.mk k6 n6 u6 t6 q6 l6 m6)))):=by rw[nh];simp[nK,nR]
  rw[pV]at hF;obtain⟨H2,cs2,bh,oe,og,zF,_,ix,call2⟩:=(hC p n (n+1)).use aa.wf ez hn hp hb dJ hF (by omega);have mm:=fun A'=>ix [] [] [] A' (Env.nil _ _ _)
  obtain⟨c2,b2,rfl⟩:=(mm []).fH rfl;refine⟨_,gS hn _ _ _,?_⟩;simp only[go_sem,simprocAttr,az hn,aF hn,aE hn,aG hn,hn,hn];refine jy rfl ?_;refine aR _ _ (qJ bh hn _ _ _) (gS bh _ _ _) (gu call2 _ fun A'=>⟨pW,kJ,by rw[<-hn,gq];rfl,by rw[<-hn,fU];rfl⟩) ?_;simp only[go_sem,simprocAttr,az bh,aF bh,aE bh,aG bh,bh,bh,Nat.add_zero,Nat.add_assoc];have agE:p<H2.length:=by omega
  refine U (ir hT aO [[116,104,101,110]] (by decide) agE bD (by omega) (fun c=>by rw[az bh];rfl)) ?_;simp only[go_sem,simprocAttr,az bh,aF bh,aE bh,aG bh,bh,bh,gh];obtain⟨H4,cs4,kj,kp4,fr4,cl4,_,SV,call4⟩:=(hC p n (n+1)).use aa.wf wU bh hp hb abj og (by omega);have SW:=fun A'=>SV _ _ [] A' (Env.base (mm []) bh hp)
  obtain⟨c4,b4,rfl⟩:=(SW []).fH rfl;refine⟨_,gS bh _ _ _,?_⟩;simp only[go_sem,simprocAttr,az bh,aF bh,aE bh,aG bh,bh,bh];refine jy rfl ?_;refine aR _ _ (qJ kj bh _ _ _) (gS kj _ _ _) (gu call4 _ fun A'=>⟨pW,kJ,by rw[<-bh,gq];rfl,by rw[<-bh,fU];rfl⟩) ?_;simp only[go_sem,simprocAttr,az kj,aF kj,aE kj,aG kj,kj,kj,Nat.add_zero,Nat.add_assoc];have abi:p<H4.length:=by omega
  refine⟨by intro r hr;simp at hr;subst hr;rfl,?_⟩;refine U (ir hT aO [[101,108,115,101]] (by decide) abi nJ (by omega) (fun c=>by rw[az kj];rfl)) ?_;simp only[go_sem,simprocAttr,az kj,aF kj,aE kj,aG kj,kj,kj,gh];obtain⟨H6,cs6,lX,SU,fr6,cl6,_,HU,call6⟩:=(hC p n (n+1)).use aa.wf yc kj hp hb rp fr4 (by omega);have HV:=fun A'=>HU _ _ [] A' (Env.base (SW []) kj hp)
  obtain⟨c6,b6,rfl⟩:=(HV []).fH rfl;refine⟨_,gS kj _ _ _,?_⟩;simp only[go_sem,simprocAttr,az kj,aF kj,aE kj,aG kj,kj,kj];refine jy rfl ?_;refine aR _ _ (qJ lX kj _ _ _) (gS lX _ _ _) (gu call6 _ fun A'=>⟨pW,kJ,by rw[<-kj,gq];rfl,by rw[<-kj,fU];rfl⟩) ?_;simp only[go_sem,simprocAttr,az lX,aF lX,aE lX,aG lX,lX,lX,Nat.add_zero,Nat.add_assoc];have abh:p<H6.length:=by omega
  refine⟨by intro r hr;simp at hr;subst hr;rfl,?_⟩;exact⟨_,H6,_,_,rfl,rfl,(oe.trans kp4).trans SU,iO (adB (u:=n) (HV _) rfl rfl rfl (by rw[az lX];rfl) (Nat.le_refl _) hb)⟩
 rw[aZ c3]at hF⊢;simp only[go_sem,simprocAttr,az hn,aF hn,aE hn,aG hn,hn,hn,c3];refine U (iq aO [109,97,116,99,104] K _ p s1 bW bG) ?_;unfold dm;cases c4:aL T [109,97,116,99,104] s1
 ·rw[aZ c4]at hF⊢
  simp only[go_sem,simprocAttr,az hn,aF hn,aE hn,aG hn,hn,hn,c4];rcases hq:uZ T T.length ex s1 with⟨⟨k1,n1,u1,t1,q1,l1,m1⟩,s2⟩
  rw[hq]at hF;obtain⟨H1,cs1,ar,dV,fB,lI,_,cE,cb⟩:=(hO p).use aa.wf hq hn hp hb bG hF (Nat.le_refl _);refine U (cb _ trivial) ?_;have cV:=fun A A'=>cE [] [] A A' (Env.nil _ _ _)
  obtain⟨c1,b1,rfl⟩:=(cV [] []).fH rfl;simp only[go_sem,simprocAttr,az ar,aF ar,aE ar,aG ar,ar,ar];exact⟨_,H1,_,n,rfl,rfl,dV,cV [] _⟩
 ·rw[aS c4]at hF⊢
  have dJ:=bG.aI hT (cH c4).2;unfold A9 at hF⊢;simp only[go_sem,simprocAttr,az hn,aF hn,aE hn,aG hn,hn,hn,c4];have HQ:=Pg.pr hT Au sP;rcases ez:ex (aI s1)with⟨⟨k2,n2,u2,t2,q2,l2,m2⟩,s2⟩
  have bD:=dJ.run sP;rw[ez]at bD;simp only at bD;have nJ:=(bD.step (aK hT [119,105,116,104])).step (aK hT [124]);simp only[aP,da,ie,ez]at hF⊢;generalize agF:aX T [124] (aX T [119,105,116,104] s2)=s4 at *;have gH:nC (aa.tv (.mk k2 n2 u2 t2 q2 l2 m2))<=nC (aa.tv (.mk 13 [] 0 [] tp [.mk k2 n2 u2 t2 q2 l2 m2] (eJ (fun s=>decide (s.c=0)) (pf T T.length (iH T pat ex)) (aT []) s4).1)):=by rw[nh 13,List.map_cons,nK];omega
  obtain⟨H1,cs1,ar,dV,fB,lI,_,cE,cb⟩:=(hC p n (n+1)).use aa.wf ez hn hp hb dJ hF gH;have cV:=fun A'=>cE [] [] [] A' (Env.nil _ _ _)
  obtain⟨c1,b1,rfl⟩:=(cV []).fH rfl;refine⟨_,gS hn _ _ _,?_⟩;simp only[go_sem,simprocAttr,az hn,aF hn,aE hn,aG hn,hn,hn];refine jy rfl ?_;refine aR _ _ (qJ ar hn _ _ _) (gS ar _ _ _) (gu cb _ fun A'=>⟨pW,kJ,by rw[<-hn,gq];rfl,by rw[<-hn,fU];rfl⟩) ?_;have FZ:p<H1.length:=by omega
  simp only[go_sem,simprocAttr,az ar,aF ar,aE ar,aG ar,ar,ar,Nat.add_zero,Nat.add_assoc];refine U (ir hT aO [[119,105,116,104],[124]] (by decide) FZ bD (by omega) (fun c=>by rw[az ar];rfl)) ?_;simp only[go_sem,simprocAttr,az ar,aF ar,aE ar,aG ar,ar,ar,XP,agF];by_cases XY:s4.c=0
  ·rw[fv (by simp[XY])]at fB⊢
   rcases hR:pf T T.length (iH T pat ex) s4 with⟨Rl,Rs⟩
   have HM:Rl≠[]:=by have:=congrArg Prod.fst hR;rintro rfl;cases this
   rw[hR]at fB;have pV:nC (aa.tv (.mk 13 [] 0 [] tp [.mk k2 n2 u2 t2 q2 l2 m2] Rl))-nC (aa.tv (.mk k2 n2 u2 t2 q2 l2 m2))=1+nK (Rl.map al.tv):=by rw[nh 13,List.map_cons,nK];simp[nR];omega
   rw[pV]at fB;generalize Oc:([.var [.ptr p 0],.var [iV d],.var [iV 0,sV [],iV 0,sV [],iV 0,.p .nl,.p .nl],.var [iV tk,sV tt,iV tn,iV tp],.rows 7 0 [[iV k2,sV n2,iV u2,sV t2,iV q2,c1,b1]]]:List AO)=A5;have y0:A5[0]?=some (.var [.ptr p 0]):=by subst Oc;rfl
   have y1:A5[1]?=some (.var [iV d]):=by subst Oc;rfl
   have y2:A5[2]?=some (.var [iV 0,sV [],iV 0,sV [],iV 0,.p .nl,.p .nl]):=by subst Oc;rfl
   have y4:A5[4]?=some (.rows 7 0 [[iV k2,sV n2,iV u2,sV t2,iV q2,c1,b1]]):=by subst Oc;rfl
   have y5:A5.length=5:=by subst Oc;rfl
   refine⟨LG al,[2,3,4,6,10],fun x st=>(LA (db T most) T e b n p K [0,1,2,3,4,5] (aa.tv (.mk k2 n2 u2 t2 q2 l2 m2)) [iV k2,sV n2,iV u2,sV t2,iV q2,c1,b1] (iH T pat ex) Rl Rs x/\(∀(i:Nat) o,i<5->A5[i]?=some o->x.A[i]?=some o)/\x.A[5]?=some (.var [iV 13,sV [],iV 0,sV [],iV tp,.gs (n+4) 0 0 1,x.a]))/\st=⟨[(2,.ptr n 0),(3,.ptr (n+1) 0),(4,.ptr (n+2) 0),(6,.fI 118 [.ptr n 0,.ptr (n+1) 0]),(10,.ptr (n+5) 0)],[],x.H.set p (db T most x.s)++x.A⟩,fun x=>T.length-x.s.i,
    ⟨⟨T.length,s4,[],[],.p .nl,H1,A5++[.var [iV 13,sV [],iV 0,sV [],iV tp,.gs (n+4) 0 0 1,.p .nl],.rows 1 0 [[sV [119,105,116,104]],[sV [124]]]]⟩,?_⟩,?_⟩
   ·exact⟨⟨LA.start nJ XY hR ar dV fB (by have:=FN (Rl.map al.tv);omega) (Env.base (cV []) ar hp) (by intro k hk;simp at hk⊢;omega),fun i o hi ho=>ay ho _,by rw[show(5:Nat)=A5.length from y5.symm,gq];rfl⟩,by subst Oc;rfl⟩
   ·rintro x _ ⟨⟨hL,hI,i5⟩,rfl⟩
    have kh:p<x.H.length:=by rw[hL.hn];omega
    have i0:=hI 0 _ (by decide) y0;have i1:=hI 1 _ (by decide) y1;have i2:=hI 2 _ (by decide) y2;have i4:=hI 4 _ (by decide) y4;simp only[go_sem,simprocAttr,az hL.hn,aF hL.hn,aE hL.hn,aG hL.hn,hL.hn,hL.hn,i0];refine U (kg x.H _ p x.s kh hL.ok) ?_;simp only[go_sem,simprocAttr,az hL.hn,aF hL.hn,aE hL.hn,aG hL.hn,hL.hn,hL.hn,i0,i1,od,dT hL.c0,Bool.not_true,Bool.not_false];rcases N5:pat x.s with⟨⟨k7,n7,u7,q7,l7⟩,s7⟩
    have N4:=hL.ok.run Au;rw[N5]at N4;simp only at N4;have abk:=N4.step (aK hT [45,62]);rcases F1:ex (aX T [45,62] s7)with⟨⟨k8,n8,u8,t8,q8,l8,m8⟩,s8⟩
    have sZ:=abk.run sP;rw[F1]at sZ;simp only at sZ;have hm:iH T pat ex x.s=(.mk (.mk k7 n7 u7 q7 l7) (.mk k8 n8 u8 t8 q8 l8 m8),s8):=by unfold iH;rw[aP,N5,da,aP,F1];rfl
    have HW:x.s.i<=s8.i:=by have:=(HQ x.s hL.ok.1).1;rw[hm]at this;exact this
    obtain⟨M,oH,hM⟩:=hL.room hm;have hnA:nC (al.tv (.mk (.mk k7 n7 u7 q7 l7) (.mk k8 n8 u8 t8 q8 l8 m8)))=nC (ae.tv (.mk k7 n7 u7 q7 l7))+nC (aa.tv (.mk k8 n8 u8 t8 q8 l8 m8)):=by rw[al.tv,ng]
    rw[hnA]at hM;obtain⟨H7,cs7,ux,kp7,fr7,cl7,_,agG,call7⟩:=(SP p).use ae.wf N5 hL.hn hp hb hL.ok oH (by omega);have Od:=fun A'=>agG _ _ x.A A' hL.env
    obtain⟨c7,rfl⟩:=(Od []).sL hL.env.len;refine U (call7 _ trivial) ?_;have hp7:p<H7.length:=by omega
    simp only[go_sem,simprocAttr,az ux,aF ux,aE ux,aG ux,ux,ux,gq,fU,sU,qG,Nat.add_zero,ay i0 _];refine U (ir hT aO [[45,62]] (by decide) hp7 N4 (by omega) (fun c=>by rw[az ux,fU];rfl)) ?_;simp only[go_sem,simprocAttr,az ux,aF ux,aE ux,aG ux,ux,ux,gh];obtain⟨H8,cs8,cy,HX,Oe,cl8,_,SX,call8⟩:=(hC p n (n+1)).use aa.wf F1 ux hp hb abk fr7 (by omega);have Dx:=fun A'=>SX _ _ [] A' (Env.base (Od []) ux hp)
    obtain⟨c8,b8,rfl⟩:=(Dx []).fH (Od []).len;refine U (call8 _ ⟨pW,kJ,by rw[<-ux,gq];exact ay i0 _,by rw[<-ux,fU];exact ay i1 _⟩) ?_;have HY:p<H8.length:=by omega
    simp only[go_sem,simprocAttr,az cy,aF cy,aE cy,aG cy,cy,cy,gq,fU,sU,qG,Nat.add_zero,ay i5 _];refine⟨by intro r hr;simp at hr;subst hr;rfl,?_⟩;refine KQ hL.hn cy hL.own hL.ids hL.nm (by rw[hL.len];have:=hL.ln;have:=hL.ok.1;omega) (fun k o h=>ay h _) (by decide) ?_;intro id ver A' w1 w2 w3;have j0:=(w3 0 (by decide)).trans i0;have j2:=(w3 2 (by decide)).trans i2;have j4:=(w3 4 (by decide)).trans i4;have j5:=(w3 5 (by decide)).trans i5;have hz:∀o,(A'.set 5 o)[5]?=some o:=fun o=>bg j5
    have jH:∀o,(A'.set 5 o)[0]?=some (.var [.ptr p 0]):=fun o=>aU j0 (by decide)
    simp only[go_sem,simprocAttr,az cy,aF cy,aE cy,aG cy,cy,cy,j5,jH];have rQ:∀o,(A'.set 5 o)[2]?=some (.var [iV 0,sV [],iV 0,sV [],iV 0,.p .nl,.p .nl]):=fun o=>aU j2 (by decide)
    have HZ:∀o,(A'.set 5 o)[4]?=some (.rows 7 0 [[iV k2,sV n2,iV u2,sV t2,iV q2,c1,b1]]):=fun o=>aU j4 (by decide)
    refine U (iq aO [124] H8 _ p s8 HY sZ) ?_;unfold dm;cases hg:aL T [124] s8
    ·obtain⟨ha,hx⟩:=hL.stop hm hg
     subst hx;simp only[go_sem,simprocAttr,az cy,aF cy,aE cy,aG cy,cy,cy,hg,jH,Bool.not_true,Bool.not_false];refine U (ir hT aO [[101,110,100]] (by decide) HY sZ (by omega) (fun c=>by rw[az cy,MN];rfl)) ?_;have Dy:∀o B,((A'.set 5 o)++B)[5]?=some o:=fun o B=>ay (hz o) B
     have kA:∀o B,((A'.set 5 o)++B)[2]?=some (.var [iV 0,sV [],iV 0,sV [],iV 0,.p .nl,.p .nl]):=fun o B=>ay (rQ o) B
     have KS:∀o B o',(((A'.set 5 o)++B).set 2 o')[2]?=some o':=fun o B o'=>bg (kA o B)
     simp only[go_sem,simprocAttr,az cy,aF cy,aE cy,aG cy,cy,cy,gh,Dy,kA,KS]
     have agH:id≠n+4:=by
      have h1:=w2.1;rintro rfl;have h2:=w2.2;rw[Nat.add_sub_cancel_left]at h2;exact h2 (by decide)
     have hEE:∀A',Env b n (H8.set p (db T most (aX T [101,110,100] s8))++A') ([aa.tv (.mk k2 n2 u2 t2 q2 l2 m2)].flatten++(Rl.map al.tv).flatten) ([[iV k2,sV n2,iV u2,sV t2,iV q2,c1,b1]].flatten++(x.rs++[[iV k7,sV n7,iV u7,iV q7,c7,iV k8,sV n8,iV u8,sV t8,iV q8,c8,b8]]).flatten):=fun A'=>by
      have:=Env.base (A':=A') (c':=db T most (aX T [101,110,100] s8)) (Dx []) cy hp;rw[<-ha];simpa[al.tv,List.append_assoc]using this
     have ox:=Env.node2 (id1:=n+4) (id2:=id) (sz1:=7) (sz2:=12) (v1:=0) (v2:=ver) (hEE (((A'.set 5 (.var [iV 13,sV [],iV 0,sV [],iV tp,.gs (n+4) 0 0 1,.gs id ver 0 (x.rs.length+1)]))++[AO.rows 1 0 [[sV [101,110,100]]]]).set 2 (.var [iV 13,sV [],iV 0,sV [],iV tp,.gs (n+4) 0 0 1,.gs id ver 0 (x.rs.length+1)])))
      (by rw[az cy,List.getElem?_set_ne (by decide)];exact ay (HZ _) _)
      (hL.EB cy w1 w2 (fun k o hk ho=>by
       simp at hk;rw[List.getElem?_set_ne (by omega)];exact ay (aU ho (by omega)) _) _) (by omega) w2.1 hb (Ne.symm agH) rfl (by intro r hr;simp at hr;subst hr;exact aa.cm _) (by intro r hr;simp at hr;subst hr;rfl) (by simp)
      (by rw[<-ha];simp[hL.len]) (by intro r hr;obtain⟨a,_,rfl⟩:=List.mem_map.1 hr;exact al.cm a) (by intro r hr;rcases List.mem_append.1 hr with hr|hr;exact hL.sz1 r hr;simp at hr;subst hr;rfl) (by rw[<-ha];simp)
     have e9:(x.rs++[[iV k7,sV n7,iV u7,iV q7,c7,iV k8,sV n8,iV u8,sV t8,iV q8,c8,b8]]).length=x.rs.length+1:=by simp
     rw[e9]at ox;exact⟨_,H8,_,_,rfl,rfl,(hL.kp.trans kp7).trans HX,KR (l:=[.mk k2 n2 u2 t2 q2 l2 m2]) ox⟩
    ·simp only[go_sem,simprocAttr,az cy,aF cy,aE cy,aG cy,cy,cy,hg,Bool.not_true,Bool.not_false]
     exact⟨⟨x.j-1,aI s8,x.acc++[.mk (.mk k7 n7 u7 q7 l7) (.mk k8 n8 u8 t8 q8 l8 m8)],x.rs++[[iV k7,sV n7,iV u7,iV q7,c7,iV k8,sV n8,iV u8,sV t8,iV q8,c8,b8]],.gs id ver 0 (x.rs.length+1),H8,A'.set 5 (.var [iV 13,sV [],iV 0,sV [],iV tp,.gs (n+4) 0 0 1,.gs id ver 0 (x.rs.length+1)])⟩,
      ⟨⟨hL.next hT hm sZ HW hg cy (kp7.trans HX) Oe (by omega) (by
       have:=Env.base (A':=A'.set 5 (.var [iV 13,sV [],iV 0,sV [],iV tp,.gs (n+4) 0 0 1,.gs id ver 0 (x.rs.length+1)])) (c':=db T most (aI s8)) (Dx []) cy hp
       simpa[al.tv,List.append_assoc]using this) rfl w1 w2 (dO (by decide)) (fun k hk=>by
        have h1:=hL.nm k hk;rw[List.length_set];exact bj ((w3 k hk).trans (List.getElem?_eq_getElem h1))),fun i o hi ho=>aU ((w3 i (by simp;omega)).trans (hI i o hi ho)) (by omega),hz _⟩,rfl⟩,by have h1:=cH hg;have h2:=sZ.1;have h3:=hL.ok.1;show T.length-(s8.i+1)<T.length-x.s.i;omega⟩
  ·rw[ji (by simp[XY])]at fB⊢
   refine⟨Unit,[2,4,10],fun _ st=>st=⟨[(2,.ptr n 0),(4,.ptr (n+2) 0),(10,.ptr (n+5) 0)],[],H1.set p (db T most s4)++[.var [.ptr p 0],.var [iV d],.var [iV 0,sV [],iV 0,sV [],iV 0,.p .nl,.p .nl],.var [iV tk,sV tt,iV tn,iV tp],.rows 7 0 [[iV k2,sV n2,iV u2,sV t2,iV q2,c1,b1]],.var [iV 13,sV [],iV 0,sV [],iV tp,.gs (n+4) 0 0 1,.p .nl],.rows 1 0 [[sV [119,105,116,104]],[sV [124]]]]⟩,fun _=>0,⟨(),?_⟩,?_⟩
   ·simp only[go_sem,simprocAttr,az ar,aF ar,aE ar,aG ar,ar,ar]
   ·rintro _ _ rfl
    simp only[go_sem,simprocAttr,az ar,aF ar,aE ar,aG ar,ar,ar];refine U (kg H1 _ p s4 FZ nJ) ?_;simp only[go_sem,simprocAttr,az ar,aF ar,aE ar,aG ar,ar,ar,dF XY,Bool.not_true,Bool.not_false];refine U (ir hT aO [[101,110,100]] (by decide) FZ nJ (by omega) (fun c=>by rw[az ar];rfl)) ?_;simp only[go_sem,simprocAttr,az ar,aF ar,aE ar,aG ar,ar,ar,gh];exact⟨_,H1,_,_,rfl,rfl,dV,iO ((Env.base (cV []) ar hp).node1 (by rw[az ar];rfl) (by omega) (by omega) (aa.cm _))⟩
theorem SY:∀k d,d+k=most+2->most<=1099511627774->0<k->iu T most e 55 [iV d] (gE T T.length most k d) aa.tv
 |0,d,_,_,h=>absurd h (by omega)
 |k+1,d,h,hm,_=>adC hT aO (by omega) (fun hle=>SI hT aO k (d+1) (by omega) hm (by omega)) (mP hT most k (d+1)) (fun hle=>SY k (d+1) (by omega) hm (by omega)) (cU hT most k (d+1))
end
theorem EC {X:List AO} {p:Nat} {o:AO} (h:X[p]?=some o):X.set p o=X:=B4 h
theorem PF.at {pv:PS->AO} {T:List Tok} {lim:Nat} {f:Nat} {xs:List AV} {α:Type} {m:PM α} {V:α->AV} (h:PF pv T lim f xs m V) {X:List AO} {p:Nat} {s:PS} (hp:X[p]?=some (pv s)) (hs:Ok T lim s):
  aA Tryz.prog f (.ptr p 0::xs) X (aW (V (m s).1) (X.set p (pv (m s).2))):=by
 have:=h.nil (bj hp) hs;rwa[EC hp]at this
theorem PX.top {pv:PS->AO} {T:List Tok} {e f:Nat} {args:List AV} {p:Nat} {α:Type} {m:PM α} {tv:α->List TV} (h:PX pv T e f args (fun _=>True) p m tv) (wf:∀x,mM (tv x)) {X:List AO} {s s1:PS} {x:α} (hm:m s=(x,s1)) (hp:X[p]?=some (pv s)) (hs:Ok T e s):
  aA Tryz.prog f args X (fun r X'=>∃cs R,r=.st cs/\X'=X.set p (pv s1)++R/\Env X.length X'.length X' (tv x) cs):=by
 refine xN (nC (tv x)) ?_;have qz:=bj hp;have hK:(X++List.replicate (nC (tv x)) AO.iP)[p]?=some (pv s):=ay hp _
 have hF:Fr X.length (X++List.replicate (nC (tv x)) AO.iP) (nC (tv x)):=⟨List.range' X.length (nC (tv x)),List.nodup_range',by simp,fun i hi=>by
  simp only[List.mem_range']at hi;obtain⟨j,hj,rfl⟩:=hi;refine⟨by omega,?_⟩;rw[List.getElem?_append_right (by omega)];simp[hj]⟩
 obtain⟨H1,cs,ar,dV,_,_,_,cE,cb⟩:=h.use wf hm (Eq.refl (X++List.replicate (nC (tv x)) AO.iP).length) qz (by simp) hs hF (Nat.le_refl _);have hc:=cb [] trivial;rw[List.append_nil,List.append_nil,EC hK]at hc;refine hc.mono ?_;rintro r X' ⟨rfl,rfl⟩;refine⟨cs,H1.drop X.length,rfl,?_,?_⟩
 ·have ht:H1.take X.length=X:=by
   apply List.ext_getElem?;intro i;rcases Nat.lt_or_ge i X.length with hi|hi
   ·rw[List.getElem?_take_of_lt hi,dV.2.1 i hi,List.getElem?_append_left hi]
   ·rw[List.getElem?_eq_none (by simp;omega),List.getElem?_eq_none hi]
  have e3:H1=X++H1.drop X.length:=(List.take_append_drop X.length H1).symm.trans (congrArg (·++H1.drop X.length) ht)
  conv=>lhs;rw[e3]
  rw[List.set_append_left _ _ qz]
 ·have:=cE [] [] [] [] (Env.nil _ _ _)
  rw[List.append_nil]at this;simpa[ar]using this
theorem Ok0 {T:List Tok} (hT:bL T):Ok T 0 ⟨0,0,0,0,0⟩:=⟨hT.pos,rfl⟩
theorem adD {T:List Tok}:Rf (.inl T)=.dX [sY T,XB 0 0]:=rfl
theorem yh (b u:Nat) (X:List AO) (k:Int) (nm:List UInt8) (q:Int):Env b u X (af.tv (.mk k nm q [])) [iV k,sV nm,iV q,.p .nl]:=by
 rw[af.tv,af.mR];exact((Env.nl1.pc _).pc _).pc _
theorem uy {b u:Nat} {X:List AO} {k:Int} {nm:List UInt8} {q:Int} {l:List af} {a:AV} (h:Env b u X [.s 4 (l.map af.tv)] [a]):Env b u X (af.tv (.mk k nm q l)) [iV k,sV nm,iV q,a]:=by
 rw[af.tv,af.oG];exact((h.pc _).pc _).pc _
theorem H3 {X:List AO} {cs:List AV} {ids:List Nat} {k:Int} {nm:List UInt8} {q:Int} {l:List af} (h4:bI X (af.tv (.mk k nm q l)) cs ids):∃c,cs=[iV k,sV nm,iV q,c]:=by
 rw[af.tv]at h4;simp only[bI,ib]at h4;obtain⟨_,_,_,_,rfl,_,⟨rfl,_⟩,_,_,_,_,rfl,_,⟨rfl,_⟩,_,_,_,_,rfl,_,⟨rfl,_⟩,c,_,_,_,rfl,_,_,rfl,_⟩:=h4;exact⟨c,rfl⟩
theorem Env.CC {b u:Nat} {X:List AO} {ts:List TV} {ds cs:List AV} {k:Int} {nm:List UInt8} {q:Int} {l:List af} (h:Env b u X (ts++af.tv (.mk k nm q l)) (ds++cs)) (hl:ds.length=ts.length):∃c,cs=[iV k,sV nm,iV q,c]:=by
 obtain⟨ids,h1,_⟩:=h;obtain⟨c1,c2,i,j,e1,_,h3,h4⟩:=iX h1;obtain⟨rfl,rfl⟩:=List.append_inj e1 (by rw[h3.len];exact hl);exact H3 h4
theorem zG (k:Int) (nm:List UInt8) (q:Int) (l:List af):nC (af.tv (.mk k nm q l))=nK (l.map af.tv):=by
 rw[af.tv,af.oG];simp[nC,nT]
theorem LO.head {α:Type} {pv:PS->AO} {T:List Tok} {e b n p sz:Nat} {K:List AO} {N:List Nat} {tv:α->List TV} {g:PS->Bool} {m:PM α} {Rl:List α} {Rs:PS} {x:LG α} (h:LO pv T e b n p K N sz tv g m Rl Rs x) (SF:∀a,(tv a).length=sz) {y:α} {l:List α} (h0:x.acc=y::l):∃r0 rr q ver ids,x.rs=r0::rr/\rr.length=l.length/\x.a=.gs (n+q) ver 0 (rr.length+1)/\q∉N/\x.A[q]?=some (.rows sz ver (r0::rr))/\bI (x.H.set p (pv x.s)++x.A) (tv y) r0 ids:=by
 have hl:=h.len;rw[h0]at hl;rcases kN:x.rs with _|⟨r0,rr⟩
 ·rw[kN]at hl;simp at hl
 rw[kN]at hl;have Qa:r0.length=sz:=h.sz1 r0 (by rw[kN];simp);rcases h.own with⟨h1,h2⟩|⟨id,ver,e1,h1⟩
 ·rw[h2]at kN;cases kN
 ·obtain⟨q1,q2⟩:=h.ids _ _ _ _ e1
  obtain⟨q,rfl⟩:=Nat.le.dest q1;rw[Nat.add_sub_cancel_left]at q2;rw[az h.hn,kN]at h1;have hE:=h.env;rw[h0,kN,List.map_cons,List.flatten_cons,List.flatten_cons]at hE;obtain⟨ids,k1,_⟩:=hE;obtain⟨c1,c2,i,j,e2,_,h3,h4⟩:=iX k1;obtain⟨rfl,rfl⟩:=List.append_inj e2 (by rw[h3.len,SF,Qa]);exact⟨r0,rr,q,ver,i,rfl,by simpa using hl,by rw[e1,kN];rfl,q2,h1,h3⟩
section
variable {T:List Tok} {most e:Nat} (hT:bL T) (aO:T.length<=1073741825)
include hT aO
theorem XZ {d:Nat} (hd:d<=1099511627776) {ty:PM af} (hP:iu T most e 116 [iV (d+1:Nat)] ty af.tv) (sP:ab T ty):iu T most e 191 [iV d] (ee T ty) af.tv:=by
 refine ig fun p K b n s hn hp hb hs hF=>?_
 have bW:p<K.length:=by omega
 have od:wr .i64 ((d:Int)+1)=((d+1:Nat):Int):=bp _ (by omega);have jC:=ws aO hs;refine call191 (by simp) ?_;simp only[go_sem,simprocAttr,az hn,aF hn,aE hn,aG hn,hn,hn,KI,SC];refine U (lE K _ p s bW hs) ?_;simp only[go_sem,simprocAttr,az hn,aF hn,aE hn,aG hn,hn,hn,Tok.cells];unfold ee at hF⊢;rw[bN]at hF⊢;generalize Cz:aJ T s=t at *;obtain⟨tk,tt,tn,tp⟩:=t;simp only at hF⊢;refine U (iY 5 K _ p s bW hs) ?_;cases c0:bB T 5 s;rotate_left
 ·rw[aS c0]
  simp only[go_sem,simprocAttr,az hn,aF hn,aE hn,aG hn,hn,hn,c0,mn bW,qq bW,jC,di];exact⟨_,K,_,0,rfl,rfl,Kp.rfl,yh _ _ _ _ _ _⟩
 rw[aZ c0]at hF⊢;simp only[go_sem,simprocAttr,az hn,aF hn,aE hn,aG hn,hn,hn,c0];refine U (iY 3 K _ p s bW hs) ?_;cases c1:bB T 3 s;rotate_left
 ·rw[aS c1]
  simp only[go_sem,simprocAttr,az hn,aF hn,aE hn,aG hn,hn,hn,c1,mn bW,qq bW,jC,di];exact⟨_,K,_,0,rfl,rfl,Kp.rfl,yh _ _ _ _ _ _⟩
 rw[aZ c1,da]at hF⊢;simp only[go_sem,simprocAttr,az hn,aF hn,aE hn,aG hn,hn,hn,c1];refine U (ir hT aO [[40]] (by decide) bW hs (by omega) (fun c=>by rw[az hn];rfl)) ?_;simp only[go_sem,simprocAttr,az hn,aF hn,aE hn,aG hn,hn,hn,gh,od];have bG:=hs.step (aK hT [40]);generalize aX T [40] s=s1 at *;rcases hq:ty s1 with⟨⟨k1,n1,q1,l1⟩,s2⟩
 have bD:=bG.run sP;rw[hq]at bD;simp only at bD;simp only[aP,hq,da,ie]at hF⊢;obtain⟨H1,cs1,ar,dV,fB,lI,_,cE,cb⟩:=(hP p).use af.wf hq hn hp hb bG hF (Nat.le_refl _);refine U (cb _ trivial) ?_;have cV:=fun A A'=>cE [] [] A A' (Env.nil _ _ _)
 obtain⟨v1,rfl⟩:=(cV [] []).CC rfl;simp only[go_sem,simprocAttr,az ar,aF ar,aE ar,aG ar,ar,ar];refine U (ir hT aO [[41]] (by decide) (by omega) bD (by omega) (fun c=>by rw[az ar];rfl)) ?_;simp only[go_sem,simprocAttr,az ar,aF ar,aE ar,aG ar,ar,ar,gh];exact⟨_,H1,_,n,rfl,rfl,dV,(cV [] []).base ar hp⟩
theorem zH {ty:PM af} (kX:ab T ty) {s:PS} (hi:s.i<T.length) (hg:iT T s=true):s.i<(ee T ty s).2.i:=HL hT aO kX hi hg
theorem X7 {d:Nat} (hd:d<=1099511627776) {ty:PM af} (hP:iu T most e 116 [iV (d+1:Nat)] ty af.tv) (sP:ab T ty):iu T most e 160 [iV d] (e7 T T.length ty) af.tv:=by
 have hA:=XZ hT aO hd hP sP;have sA:=Pg.jh hT sP;refine ig fun p K b n s hn hp hb hs hF=>?_
 have bW:p<K.length:=by omega
 have jC:=ws aO hs;refine call160 (by simp) ?_;simp only[go_sem,simprocAttr,az hn,aF hn,aE hn,aG hn,hn,hn,KD,Sy];refine U (lE K _ p s bW hs) ?_;simp only[go_sem,simprocAttr,az hn,aF hn,aE hn,aG hn,hn,hn,Tok.cells];unfold e7 at hF⊢;rw[bN]at hF⊢;generalize Cz:aJ T s=t at *;obtain⟨tk,tt,tn,tp⟩:=t;simp only at hF⊢;refine U (iq aO [114,101,102] K _ p s bW hs) ?_;unfold dm;cases c0:aL T [114,101,102] s;rotate_left
 ·rw[aS c0]at hF⊢
  have bG:=hs.aI hT (cH c0).2;rcases hq:ee T ty (aI s)with⟨⟨k1,n1,q1,l1⟩,s2⟩
  simp only[aP,hq,ie]at hF⊢;simp only[go_sem,simprocAttr,az hn,aF hn,aE hn,aG hn,hn,hn,c0];obtain⟨H1,cs1,ar,dV,fB,lI,_,cE,cb⟩:=(hA p).use af.wf hq hn hp hb bG hF (by rw[zG 5,List.map_cons,nK];omega);have cV:=fun A A'=>cE [] [] A A' (Env.nil _ _ _)
  obtain⟨v1,rfl⟩:=(cV [] []).CC rfl;refine⟨_,gS hn _ _ _,?_⟩;simp only[go_sem,simprocAttr,az hn,aF hn,aE hn,aG hn,hn,hn];refine aR _ _ (qJ ar hn _ _ _) (gS ar _ _ _) (gu cb _ fun _=>trivial) ?_;simp only[go_sem,simprocAttr,az ar,aF ar,aE ar,aG ar,ar,ar,Nat.add_zero,Nat.add_assoc];exact⟨_,H1,_,_,rfl,rfl,dV,uy ((cV [] _).node1 (by rw[az ar];rfl) (by omega) (by omega) (af.cm _))⟩
 rw[aZ c0]at hF⊢;simp only[go_sem,simprocAttr,az hn,aF hn,aE hn,aG hn,hn,hn,c0];refine U (iY 3 K _ p s bW hs) ?_;cases c1:bB T 3 s
 ·rw[aZ c1]at hF⊢
  simp only[go_sem,simprocAttr,az hn,aF hn,aE hn,aG hn,hn,hn,c1];rcases hq:ee T ty s with⟨⟨k1,n1,q1,l1⟩,s2⟩
  rw[hq]at hF;obtain⟨H1,cs1,ar,dV,fB,lI,_,cE,cb⟩:=(hA p).use af.wf hq hn hp hb hs hF (Nat.le_refl _);refine U (cb _ trivial) ?_;have cV:=fun A A'=>cE [] [] A A' (Env.nil _ _ _)
  obtain⟨v1,rfl⟩:=(cV [] []).CC rfl;simp only[go_sem,simprocAttr,az ar,aF ar,aE ar,aG ar,ar,ar];exact⟨_,H1,_,n,rfl,rfl,dV,cV [] _⟩
 rw[aS c1]at hF⊢;have bG:=hs.aI hT (show(aJ T s).k≠8 by have:=(qF c1).2;rw[Cz]at this⊢;omega);simp only[go_sem,simprocAttr,az hn,aF hn,aE hn,aG hn,hn,hn,c1,mn bW,qq bW,jC,di];rcases hR:many (iT T) (ee T ty) T.length (aI s)with⟨Rl,Rs⟩
 simp only[aP,hR,ie]at hF⊢;have pV:nR (Rl.map af.tv)<=nC (af.tv (.mk 1 tt tp Rl)):=by rw[zG 1];exact FN _
 generalize XQ:nC (af.tv (.mk 1 tt tp Rl))=NN at hF pV
 refine⟨LG af,[0,1,4,6],fun x st=>(LO (db T most) T e b n p K [0,2] 4 af.tv (iT T) (ee T ty) Rl Rs x/\x.A[0]?=some (.var [iV 0,sV [],iV 0,.p .nl])/\x.A[2]?=some (.var [iV 1,sV tt,iV tp,x.a])/\(x.acc=[]->x.a=.p .nl))/\
   st=⟨[(0,.ptr p 0),(1,iV d),(4,.ptr n 0),(6,.ptr (n+2) 0)],[],x.H.set p (db T most x.s)++x.A⟩,fun x=>T.length-x.s.i,
  ⟨⟨T.length,aI s,[],[],.p .nl,K,[.var [iV 0,sV [],iV 0,.p .nl],.var [iV tk,sV tt,iV tn,iV tp],.var [iV 1,sV tt,iV tp,.p .nl]]⟩,?_⟩,?_⟩
 ·refine⟨⟨LO.start bG hR hn Kp.rfl hF pV (by simp),rfl,rfl,fun _=>rfl⟩,?_⟩
  simp only[go_sem,simprocAttr,az hn,aF hn,aE hn,aG hn,hn,hn]
 ·rintro x _ ⟨⟨hL,i0,i2,CD⟩,rfl⟩
  have kh:p<x.H.length:=by rw[hL.hn];omega
  have wQ:iT T x.s=(bB T 5 x.s||bB T 3 x.s||aL T [40] x.s):=rfl;simp only[go_sem,simprocAttr,az hL.hn,aF hL.hn,aE hL.hn,aG hL.hn,hL.hn,hL.hn];refine U (iY 5 x.H _ p x.s kh hL.ok) ?_;cases t0:bB T 5 x.s;rotate_left
  ·have hg:iT T x.s=true:=by rw[wQ];simp[t0]
   have cJ:=zH hT aO sP hL.ok.1 hg;have eL:=hL.ok.run sA;rcases fF:ee T ty x.s with⟨⟨k3,n3,q3,l3⟩,s3⟩
   rw[fF]at eL cJ;simp only at eL;obtain⟨M,oH,hM⟩:=hL.room only_tySt hg (y:=.mk k3 n3 q3 l3) (s2:=s3) fF;obtain⟨H2,cs2,bh,oe,og,zF,_,ix,call2⟩:=(hA p).use af.wf fF hL.hn hp hb hL.ok oH (by omega);have mm:=fun A'=>ix _ _ x.A A' hL.env
   obtain⟨v2,rfl⟩:=(mm []).CC hL.env.len;simp only[go_sem,simprocAttr,az hL.hn,aF hL.hn,aE hL.hn,aG hL.hn,hL.hn,hL.hn,t0];refine⟨_,gS hL.hn _ _ _,?_⟩;simp only[go_sem,simprocAttr,az hL.hn,aF hL.hn,aE hL.hn,aG hL.hn,hL.hn,hL.hn,i2];refine aR _ _ (qJ bh hL.hn _ _ _) (gS bh _ _ _) (gu call2 _ fun _=>trivial) ?_;simp only[go_sem,simprocAttr,az bh,aF bh,aE bh,aG bh,bh,bh,gq,fU,sU,qG,Nat.add_zero];refine⟨by intro r hr;simp at hr;subst hr;rfl,?_⟩;refine hL.app bh (fun k o h=>ay h _) aO (by decide) ?_;intro id ver A' m1 m2 m3;have j0:=(m3 0 (by decide)).trans i0;have j2:=(m3 2 (by decide)).trans i2;simp only[go_sem,simprocAttr,az bh,aF bh,aE bh,aG bh,bh,bh,j2];exact⟨⟨x.j-1,s3,x.acc++[.mk k3 n3 q3 l3],x.rs++[[iV k3,sV n3,iV q3,v2]],.gs id ver 0 (x.rs.length+1),H2,A'.set 2 (.var [iV 1,sV tt,iV tp,.gs id ver 0 (x.rs.length+1)])⟩,⟨⟨hL.next only_tySt hg fF eL cJ bh oe og (by omega) (mm _) rfl m1 m2 (dO (by decide)) (by intro k hk;rw[List.length_set];simp at hk;rcases hk with rfl|rfl;exact bj j0;exact bj j2),aU j0 (by decide),bg j2,fun h=>by simp at h⟩,rfl⟩,by have h1:x.s.i<s3.i:=cJ;have:=hL.ok.1;simp only;omega⟩
  simp only[go_sem,simprocAttr,az hL.hn,aF hL.hn,aE hL.hn,aG hL.hn,hL.hn,hL.hn,t0];refine U (iY 3 x.H _ p x.s kh hL.ok) ?_;cases t1:bB T 3 x.s;rotate_left
  ·have hg:iT T x.s=true:=by rw[wQ];simp[t1]
   have cJ:=zH hT aO sP hL.ok.1 hg;have eL:=hL.ok.run sA;rcases fF:ee T ty x.s with⟨⟨k3,n3,q3,l3⟩,s3⟩
   rw[fF]at eL cJ;simp only at eL;obtain⟨M,oH,hM⟩:=hL.room only_tySt hg (y:=.mk k3 n3 q3 l3) (s2:=s3) fF;obtain⟨H2,cs2,bh,oe,og,zF,_,ix,call2⟩:=(hA p).use af.wf fF hL.hn hp hb hL.ok oH (by omega);have mm:=fun A'=>ix _ _ x.A A' hL.env
   obtain⟨v2,rfl⟩:=(mm []).CC hL.env.len;simp only[go_sem,simprocAttr,az hL.hn,aF hL.hn,aE hL.hn,aG hL.hn,hL.hn,hL.hn,t1];refine⟨_,gS hL.hn _ _ _,?_⟩;simp only[go_sem,simprocAttr,az hL.hn,aF hL.hn,aE hL.hn,aG hL.hn,hL.hn,hL.hn,i2];refine aR _ _ (qJ bh hL.hn _ _ _) (gS bh _ _ _) (gu call2 _ fun _=>trivial) ?_;simp only[go_sem,simprocAttr,az bh,aF bh,aE bh,aG bh,bh,bh,gq,fU,sU,qG,Nat.add_zero];refine⟨by intro r hr;simp at hr;subst hr;rfl,?_⟩;refine hL.app bh (fun k o h=>ay h _) aO (by decide) ?_;intro id ver A' m1 m2 m3;have j0:=(m3 0 (by decide)).trans i0;have j2:=(m3 2 (by decide)).trans i2;simp only[go_sem,simprocAttr,az bh,aF bh,aE bh,aG bh,bh,bh,j2];exact⟨⟨x.j-1,s3,x.acc++[.mk k3 n3 q3 l3],x.rs++[[iV k3,sV n3,iV q3,v2]],.gs id ver 0 (x.rs.length+1),H2,A'.set 2 (.var [iV 1,sV tt,iV tp,.gs id ver 0 (x.rs.length+1)])⟩,⟨⟨hL.next only_tySt hg fF eL cJ bh oe og (by omega) (mm _) rfl m1 m2 (dO (by decide)) (by intro k hk;rw[List.length_set];simp at hk;rcases hk with rfl|rfl;exact bj j0;exact bj j2),aU j0 (by decide),bg j2,fun h=>by simp at h⟩,rfl⟩,by have h1:x.s.i<s3.i:=cJ;have:=hL.ok.1;simp only;omega⟩
  simp only[go_sem,simprocAttr,az hL.hn,aF hL.hn,aE hL.hn,aG hL.hn,hL.hn,hL.hn,t1];refine U (ur [40] x.H _ p x.s kh hL.ok) ?_;cases t2:aL T [40] x.s;rotate_left
  ·have hg:iT T x.s=true:=by rw[wQ];simp[t2]
   have cJ:=zH hT aO sP hL.ok.1 hg;have eL:=hL.ok.run sA;rcases fF:ee T ty x.s with⟨⟨k3,n3,q3,l3⟩,s3⟩
   rw[fF]at eL cJ;simp only at eL;obtain⟨M,oH,hM⟩:=hL.room only_tySt hg (y:=.mk k3 n3 q3 l3) (s2:=s3) fF;obtain⟨H2,cs2,bh,oe,og,zF,_,ix,call2⟩:=(hA p).use af.wf fF hL.hn hp hb hL.ok oH (by omega);have mm:=fun A'=>ix _ _ x.A A' hL.env
   obtain⟨v2,rfl⟩:=(mm []).CC hL.env.len;simp only[go_sem,simprocAttr,az hL.hn,aF hL.hn,aE hL.hn,aG hL.hn,hL.hn,hL.hn,t2];refine⟨_,gS hL.hn _ _ _,?_⟩;simp only[go_sem,simprocAttr,az hL.hn,aF hL.hn,aE hL.hn,aG hL.hn,hL.hn,hL.hn,i2];refine aR _ _ (qJ bh hL.hn _ _ _) (gS bh _ _ _) (gu call2 _ fun _=>trivial) ?_;simp only[go_sem,simprocAttr,az bh,aF bh,aE bh,aG bh,bh,bh,gq,fU,sU,qG,Nat.add_zero];refine⟨by intro r hr;simp at hr;subst hr;rfl,?_⟩;refine hL.app bh (fun k o h=>ay h _) aO (by decide) ?_;intro id ver A' m1 m2 m3;have j0:=(m3 0 (by decide)).trans i0;have j2:=(m3 2 (by decide)).trans i2;simp only[go_sem,simprocAttr,az bh,aF bh,aE bh,aG bh,bh,bh,j2];exact⟨⟨x.j-1,s3,x.acc++[.mk k3 n3 q3 l3],x.rs++[[iV k3,sV n3,iV q3,v2]],.gs id ver 0 (x.rs.length+1),H2,A'.set 2 (.var [iV 1,sV tt,iV tp,.gs id ver 0 (x.rs.length+1)])⟩,⟨⟨hL.next only_tySt hg fF eL cJ bh oe og (by omega) (mm _) rfl m1 m2 (dO (by decide)) (by intro k hk;rw[List.length_set];simp at hk;rcases hk with rfl|rfl;exact bj j0;exact bj j2),aU j0 (by decide),bg j2,fun h=>by simp at h⟩,rfl⟩,by have h1:x.s.i<s3.i:=cJ;have:=hL.ok.1;simp only;omega⟩
  have hg:iT T x.s=false:=by rw[wQ];simp[t0,t1,t2]
  obtain⟨ha,hx⟩:=hL.stop hg;subst hx;have hz:∀o,(x.A.set 0 o)[0]?=some o:=fun o=>bg i0
  simp only[go_sem,simprocAttr,az hL.hn,aF hL.hn,aE hL.hn,aG hL.hn,hL.hn,hL.hn,t2,i2,i0,hz];by_cases qI:Rl=[]
  ·subst qI
   have ye:x.a=.p .nl:=CD ha;rw[ye];exact⟨_,x.H,_,0,rfl,rfl,hL.kp,yh _ _ _ _ _ _⟩
  ·obtain⟨u,hE⟩:=hL.fin hp hb (by rw[ha];exact qI) af.cm (c:=db T most x.s) (dO (i:=0) (by decide) (o:=.var [iV 1,sV tt,iV tp,x.a]))
   rw[ha]at hE;exact⟨_,x.H,_,u,rfl,rfl,hL.kp,uy hE⟩
end
end Go.Proofs.YtjkbbnfdbfcebaaGreatDoor.Qp