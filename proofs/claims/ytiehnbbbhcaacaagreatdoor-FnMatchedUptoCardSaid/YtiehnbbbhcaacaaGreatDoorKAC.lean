/- Texts RevA RevB RevC RevD RevE RevF RevG RevH, merged. -/
import Derived.Test.YtiehnbbbhcaacaaGreatDoorKAB
import Derived.KernelRfl
set_option linter.all false
set_option maxRecDepth 100000
set_option maxHeartbeats 4000000
namespace Go.Proofs.YtiehnbbbhcaacaaGreatDoor.Ev
open Go.AM
noncomputable section
def mc6:Got (Tryz.f6.body.map (compile [0,1,2,6,7,8,9,11,21] Tryz.prog 30)):=.of (y:=PQ.made [0,1,2,6,7,8,9,11,21] pq 30 [(3,false)] [] Tryz.f6.body) (by conv=>lhs; cbv) (by kernel_rfl)
def op6:GotO mc6.m:=⟨_,by conv=>lhs; cbv⟩
def sh6:GotS op6.m':=⟨_,by conv=>lhs; simp (config:={ maxSteps:=10000000 }) only [op6,toS,toO,zMI,zOp,binS]⟩
def en6:Ent Tryz.prog:=mc6.ent op6 sh6 (mc6.call2 (ms:=[.cell true 3 6,.cell true 2 7]) Tryz.func6 (by kernel_rfl))
def mc7:Got (Tryz.f7.body.map (compile [0,1,2,3,8,9,10,11,19] Tryz.prog 28)):=.of (y:=PQ.made [0,1,2,3,8,9,10,11,19] pq 28 [(3,false)] [] Tryz.f7.body) (by conv=>lhs; cbv) (by kernel_rfl)
def op7:GotO mc7.m:=⟨_,by conv=>lhs; cbv⟩
def sh7:GotS op7.m':=⟨_,by conv=>lhs; simp (config:={ maxSteps:=10000000 }) only [op7,toS,toO,zMI,zOp,binS]⟩
def en7:Ent Tryz.prog:=mc7.ent op7 sh7 (mc7.call2 (ms:=[.cell true 3 8,.cell true 2 9]) Tryz.func7 (by kernel_rfl))
def mc10:Got (Tryz.f10.body.map (compile [0,2,3,4,5,6,7,8,9,10,19,31] Tryz.prog 44)):=.of (y:=PQ.made [0,2,3,4,5,6,7,8,9,10,19,31] pq 44 [(6,false),(6,false),(7,false)] [] Tryz.f10.body) (by conv=>lhs; cbv) (by kernel_rfl)
def op10:GotO mc10.m:=⟨_,by conv=>lhs; cbv⟩
def sh10:GotS op10.m':=⟨_,by conv=>lhs; simp (config:={ maxSteps:=10000000 }) only [op10,toS,toO,zMI,zOp,binS]⟩
def en10:Ent Tryz.prog:=mc10.ent op10 sh10 (mc10.call2 (ms:=[.t 2,.cell true 12 3,.cell true 4 4,.cell true 2 5]) Tryz.func10 (by kernel_rfl))
def mc11:Got (Tryz.f11.body.map (compile [0,1,2,3,5,8,10,11,29] Tryz.prog 44)):=.of (y:=PQ.made [0,1,2,3,5,8,10,11,29] pq 44 [] [] Tryz.f11.body) (by conv=>lhs; cbv) (by kernel_rfl)
def op11:GotO mc11.m:=⟨_,by conv=>lhs; cbv⟩
def sh11:GotS op11.m':=⟨_,by conv=>lhs; simp (config:={ maxSteps:=10000000 }) only [op11,toS,toO,zMI,zOp,binS]⟩
def en11:Ent Tryz.prog:=mc11.ent op11 sh11 (mc11.call2 (ms:=[.cell true 3 8]) Tryz.func11 (by kernel_rfl))
def mc12:Got (Tryz.f12.body.map (compile [0,2,3,4,5,7,8,9,19,29] Tryz.prog 34)):=.of (y:=PQ.made [0,2,3,4,5,7,8,9,19,29] pq 34 [(3,false)] [] Tryz.f12.body) (by conv=>lhs; cbv) (by kernel_rfl)
def op12:GotO mc12.m:=⟨_,by conv=>lhs; cbv⟩
def sh12:GotS op12.m':=⟨_,by conv=>lhs; simp (config:={ maxSteps:=10000000 }) only [op12,toS,toO,zMI,zOp,binS]⟩
def en12:Ent Tryz.prog:=mc12.ent op12 sh12 (mc12.call2 (ms:=[.cell true 2 2,.cell true 2 3]) Tryz.func12 (by kernel_rfl))
def mc13:Got (Tryz.f13.body.map (compile [0,1,2,3,4,8,14] Tryz.prog 24)):=.of (y:=PQ.made [0,1,2,3,4,8,14] pq 24 [] [] Tryz.f13.body) (by conv=>lhs; cbv) (by kernel_rfl)
def op13:GotO mc13.m:=⟨_,by conv=>lhs; cbv⟩
def sh13:GotS op13.m':=⟨_,by conv=>lhs; simp (config:={ maxSteps:=10000000 }) only [op13,toS,toO,zMI,zOp,binS]⟩
def en13:Ent Tryz.prog:=mc13.ent op13 sh13 (mc13.call2 (ms:=[.cell true 3 8]) Tryz.func13 (by kernel_rfl))
def mc14:Got (Tryz.f14.body.map (compile [0,2,3,4,5,6,7,15,24] Tryz.prog 32)):=.of (y:=PQ.made [0,2,3,4,5,6,7,15,24] pq 32 [(3,false),(6,false)] [] Tryz.f14.body) (by conv=>lhs; cbv) (by kernel_rfl)
def op14:GotO mc14.m:=⟨_,by conv=>lhs; cbv⟩
def sh14:GotS op14.m':=⟨_,by conv=>lhs; simp (config:={ maxSteps:=10000000 }) only [op14,toS,toO,zMI,zOp,binS]⟩
def en14:Ent Tryz.prog:=mc14.ent op14 sh14 (mc14.call2 (ms:=[.cell true 8 2,.cell true 2 3]) Tryz.func14 (by kernel_rfl))
def mc15:Got (Tryz.f15.body.map (compile [0,1,2,3,4,5,6,8,9,10,11,12,17,38,59] Tryz.prog 66)):=.of (y:=PQ.made [0,1,2,3,4,5,6,8,9,10,11,12,17,38,59] pq 66 [(5,false),(8,false),(5,false)] [] Tryz.f15.body) (by conv=>lhs; cbv) (by kernel_rfl)
def op15:GotO mc15.m:=⟨_,by conv=>lhs; cbv⟩
def sh15:GotS op15.m':=⟨_,by conv=>lhs; simp (config:={ maxSteps:=10000000 }) only [op15,toS,toO,zMI,zOp,binS]⟩
def en15:Ent Tryz.prog:=mc15.ent op15 sh15 (mc15.call2 (ms:=[.cell true 12 2,.cell true 4 3,.cell true 2 4]) Tryz.func15 (by kernel_rfl))
def mc16:Got (Tryz.f16.body.map (compile [0,1,2,3,4,5,6,7,8,10,13,21,22,23,24,40,47,48,49,50,65] Tryz.prog 72)):=.of (y:=PQ.made [0,1,2,3,4,5,6,7,8,10,13,21,22,23,24,40,47,48,49,50,65] pq 72 [(3,false),(5,false),(5,false)] [] Tryz.f16.body) (by conv=>lhs; cbv) (by kernel_rfl)
def op16:GotO mc16.m:=⟨_,by conv=>lhs; cbv⟩
def sh16:GotS op16.m':=⟨_,by conv=>lhs; simp (config:={ maxSteps:=10000000 }) only [op16,toS,toO,zMI,zOp,binS]⟩
def en16:Ent Tryz.prog:=mc16.ent op16 sh16 (mc16.call2 (ms:=[.t 2,.cell true 2 3]) Tryz.func16 (by kernel_rfl))
def mc17:Got (Tryz.f17.body.map (compile [0,1,3,4,5,6,7,15] Tryz.prog 22)):=.of (y:=PQ.made [0,1,3,4,5,6,7,15] pq 22 [] [] Tryz.f17.body) (by conv=>lhs; cbv) (by kernel_rfl)
def op17:GotO mc17.m:=⟨_,by conv=>lhs; cbv⟩
def sh17:GotS op17.m':=⟨_,by conv=>lhs; simp (config:={ maxSteps:=10000000 }) only [op17,toS,toO,zMI,zOp,binS]⟩
def en17:Ent Tryz.prog:=mc17.ent op17 sh17 (mc17.call2 (ms:=[.cell true 4 4,.t 5]) Tryz.func17 (by kernel_rfl))
def mc18:Got (Tryz.f18.body.map (compile [0,1,2,6] Tryz.prog 15)):=.of (y:=PQ.made [0,1,2,6] pq 15 [] [] Tryz.f18.body) (by conv=>lhs; cbv) (by kernel_rfl)
def op18:GotO mc18.m:=⟨_,by conv=>lhs; cbv⟩
def sh18:GotS op18.m':=⟨_,by conv=>lhs; simp (config:={ maxSteps:=10000000 }) only [op18,toS,toO,zMI,zOp,binS]⟩
def en18:Ent Tryz.prog:=mc18.ent op18 sh18 (mc18.call2 (ms:=[.t 6]) Tryz.func18 (by kernel_rfl))
def mc19:Got (Tryz.f19.body.map (compile [0,1,2,4,6,7,10,14,15,21,27,31,38,45,56,60,75,84] Tryz.prog 108)):=.of (y:=PQ.made [0,1,2,4,6,7,10,14,15,21,27,31,38,45,56,60,75,84] pq 108 [(10,false)] [] Tryz.f19.body) (by conv=>lhs; cbv) (by kernel_rfl)
def op19:GotO mc19.m:=⟨_,by conv=>lhs; cbv⟩
def sh19:GotS op19.m':=⟨_,by conv=>lhs; simp (config:={ maxSteps:=10000000 }) only [op19,toS,toO,zMI,zOp,binS]⟩
def en19:Ent Tryz.prog:=mc19.ent op19 sh19 (mc19.call2 (ms:=[.t 6]) Tryz.func19 (by kernel_rfl))
end
end Go.Proofs.YtiehnbbbhcaacaaGreatDoor.Ev
set_option linter.all false
set_option maxRecDepth 100000
set_option maxHeartbeats 4000000
namespace Go.Proofs.YtiehnbbbhcaacaaGreatDoor.Ev
open Go.AM
noncomputable section
def mc20:Got (Tryz.f20.body.map (compile [0,1,2,6,9] Tryz.prog 22)):=.of (y:=PQ.made [0,1,2,6,9] pq 22 [] [] Tryz.f20.body) (by conv=>lhs; cbv) (by kernel_rfl)
def op20:GotO mc20.m:=⟨_,by conv=>lhs; cbv⟩
def sh20:GotS op20.m':=⟨_,by conv=>lhs; simp (config:={ maxSteps:=10000000 }) only [op20,toS,toO,zMI,zOp,binS]⟩
def en20:Ent Tryz.prog:=mc20.ent op20 sh20 (mc20.call2 (ms:=[.t 6]) Tryz.func20 (by kernel_rfl))
def mc21:Got (Tryz.f21.body.map (compile [0,1,3,4,5,6,7,8,16,26] Tryz.prog 33)):=.of (y:=PQ.made [0,1,3,4,5,6,7,8,16,26] pq 33 [] [] Tryz.f21.body) (by conv=>lhs; cbv) (by kernel_rfl)
def op21:GotO mc21.m:=⟨_,by conv=>lhs; cbv⟩
def sh21:GotS op21.m':=⟨_,by conv=>lhs; simp (config:={ maxSteps:=10000000 }) only [op21,toS,toO,zMI,zOp,binS]⟩
def en21:Ent Tryz.prog:=mc21.ent op21 sh21 (mc21.call2 (ms:=[.cell true 2 4,.t 5]) Tryz.func21 (by kernel_rfl))
def mc22:Got (Tryz.f22.body.map (compile [0,1,2,3,4,8] Tryz.prog 24)):=.of (y:=PQ.made [0,1,2,3,4,8] pq 24 [] [] Tryz.f22.body) (by conv=>lhs; cbv) (by kernel_rfl)
def op22:GotO mc22.m:=⟨_,by conv=>lhs; cbv⟩
def sh22:GotS op22.m':=⟨_,by conv=>lhs; simp (config:={ maxSteps:=10000000 }) only [op22,toS,toO,zMI,zOp,binS]⟩
def en22:Ent Tryz.prog:=mc22.ent op22 sh22 (mc22.call2 (ms:=[.t 8]) Tryz.func22 (by kernel_rfl))
def mc23:Got (Tryz.f23.body.map (compile [0,1,2,3,4,5,10,11,12,26,43] Tryz.prog 47)):=.of (y:=PQ.made [0,1,2,3,4,5,10,11,12,26,43] pq 47 [] [] Tryz.f23.body) (by conv=>lhs; cbv) (by kernel_rfl)
def op23:GotO mc23.m:=⟨_,by conv=>lhs; cbv⟩
def sh23:GotS op23.m':=⟨_,by conv=>lhs; simp (config:={ maxSteps:=10000000 }) only [op23,toS,toO,zMI,zOp,binS]⟩
def en23:Ent Tryz.prog:=mc23.ent op23 sh23 (mc23.call2 (ms:=[.t 10]) Tryz.func23 (by kernel_rfl))
def mc24:Got (Tryz.f24.body.map (compile [] Tryz.prog 4)):=.of (y:=PQ.made [] pq 4 [] [] Tryz.f24.body) (by conv=>lhs; cbv) (by kernel_rfl)
def op24:GotO mc24.m:=⟨_,by conv=>lhs; cbv⟩
def sh24:GotS op24.m':=⟨_,by conv=>lhs; simp (config:={ maxSteps:=10000000 }) only [op24,toS,toO,zMI,zOp,binS]⟩
def en24:Ent Tryz.prog:=mc24.ent op24 sh24 (mc24.call2 (ms:=[]) Tryz.func24 (by kernel_rfl))
def mc25:Got (Tryz.f25.body.map (compile [0,2,3,6] Tryz.prog 12)):=.of (y:=PQ.made [0,2,3,6] pq 12 [] [] Tryz.f25.body) (by conv=>lhs; cbv) (by kernel_rfl)
def op25:GotO mc25.m:=⟨_,by conv=>lhs; cbv⟩
def sh25:GotS op25.m':=⟨_,by conv=>lhs; simp (config:={ maxSteps:=10000000 }) only [op25,toS,toO,zMI,zOp,binS]⟩
def en25:Ent Tryz.prog:=mc25.ent op25 sh25 (mc25.call2 (ms:=[.t 2,.cell true 2 3]) Tryz.func25 (by kernel_rfl))
def mc26:Got (Tryz.f26.body.map (compile [0,2,3,5] Tryz.prog 19)):=.of (y:=PQ.made [0,2,3,5] pq 19 [(5,false)] [] Tryz.f26.body) (by conv=>lhs; cbv) (by kernel_rfl)
def op26:GotO mc26.m:=⟨_,by conv=>lhs; cbv⟩
def sh26:GotS op26.m':=⟨_,by conv=>lhs; simp (config:={ maxSteps:=10000000 }) only [op26,toS,toO,zMI,zOp,binS]⟩
def en26:Ent Tryz.prog:=mc26.ent op26 sh26 (mc26.call2 (ms:=[.cell true 8 2]) Tryz.func26 (by kernel_rfl))
def mc27:Got (Tryz.f27.body.map (compile [0,2] Tryz.prog 9)):=.of (y:=PQ.made [0,2] pq 9 [] [] Tryz.f27.body) (by conv=>lhs; cbv) (by kernel_rfl)
def op27:GotO mc27.m:=⟨_,by conv=>lhs; cbv⟩
def sh27:GotS op27.m':=⟨_,by conv=>lhs; simp (config:={ maxSteps:=10000000 }) only [op27,toS,toO,zMI,zOp,binS]⟩
def en27:Ent Tryz.prog:=mc27.ent op27 sh27 (mc27.call2 (ms:=[.t 2]) Tryz.func27 (by kernel_rfl))
def mc28:Got (Tryz.f28.body.map (compile [0,1,2,3,4,5,13] Tryz.prog 26)):=.of (y:=PQ.made [0,1,2,3,4,5,13] pq 26 [] [] Tryz.f28.body) (by conv=>lhs; cbv) (by kernel_rfl)
def op28:GotO mc28.m:=⟨_,by conv=>lhs; cbv⟩
def sh28:GotS op28.m':=⟨_,by conv=>lhs; simp (config:={ maxSteps:=10000000 }) only [op28,toS,toO,zMI,zOp,binS]⟩
def en28:Ent Tryz.prog:=mc28.ent op28 sh28 (mc28.call2 (ms:=[.cell true 2 2]) Tryz.func28 (by kernel_rfl))
def mc29:Got (Tryz.f29.body.map (compile [0,1,2,4,6,7,8,9,10,11,12,13,14,20,24,25,48,77,84,127,133,139] Tryz.prog 149)):=.of (y:=PQ.made [0,1,2,4,6,7,8,9,10,11,12,13,14,20,24,25,48,77,84,127,133,139] pq 149 [(8,false),(10,false),(9,false),(10,false)] [] Tryz.f29.body) (by conv=>lhs; cbv) (by kernel_rfl)
def op29:GotO mc29.m:=⟨_,by conv=>lhs; cbv⟩
def sh29:GotS op29.m':=⟨_,by conv=>lhs; simp (config:={ maxSteps:=10000000 }) only [op29,toS,toO,zMI,zOp,binS]⟩
def en29:Ent Tryz.prog:=mc29.ent op29 sh29 (mc29.call2 (ms:=[.cell true 17 6]) Tryz.func29 (by kernel_rfl))
def mc30:Got (Tryz.f30.body.map (compile [0,1,2,4,6,7,8,9,11,13,15,19,20,33,42,59,60,61,62,96,97,98,99,112,113,114,115,129,130,131,132] Tryz.prog 152)):=.of (y:=PQ.made [0,1,2,4,6,7,8,9,11,13,15,19,20,33,42,59,60,61,62,96,97,98,99,112,113,114,115,129,130,131,132] pq 152 [(8,false),(16,false),(6,false),(7,false),(13,false)] [] Tryz.f30.body) (by conv=>lhs; cbv) (by kernel_rfl)
def op30:GotO mc30.m:=⟨_,by conv=>lhs; cbv⟩
def sh30:GotS op30.m':=⟨_,by conv=>lhs; simp (config:={ maxSteps:=10000000 }) only [op30,toS,toO,zMI,zOp,binS]⟩
def en30:Ent Tryz.prog:=mc30.ent op30 sh30 (mc30.call2 (ms:=[.cell true 12 6]) Tryz.func30 (by kernel_rfl))
def mc31:Got (Tryz.f31.body.map (compile [0,1,2,3,5,6,13] Tryz.prog 21)):=.of (y:=PQ.made [0,1,2,3,5,6,13] pq 21 [] [] Tryz.f31.body) (by conv=>lhs; cbv) (by kernel_rfl)
def op31:GotO mc31.m:=⟨_,by conv=>lhs; cbv⟩
def sh31:GotS op31.m':=⟨_,by conv=>lhs; simp (config:={ maxSteps:=10000000 }) only [op31,toS,toO,zMI,zOp,binS]⟩
def en31:Ent Tryz.prog:=mc31.ent op31 sh31 (mc31.call2 (ms:=[.cell true 4 6]) Tryz.func31 (by kernel_rfl))
end
end Go.Proofs.YtiehnbbbhcaacaaGreatDoor.Ev
set_option linter.all false
set_option maxRecDepth 100000
set_option maxHeartbeats 4000000
namespace Go.Proofs.YtiehnbbbhcaacaaGreatDoor.Ev
open Go.AM
noncomputable section
def mc32:Got (Tryz.f32.body.map (compile [0,1,2] Tryz.prog 12)):=.of (y:=PQ.made [0,1,2] pq 12 [] [] Tryz.f32.body) (by conv=>lhs; cbv) (by kernel_rfl)
def op32:GotO mc32.m:=⟨_,by conv=>lhs; cbv⟩
def sh32:GotS op32.m':=⟨_,by conv=>lhs; simp (config:={ maxSteps:=10000000 }) only [op32,toS,toO,zMI,zOp,binS]⟩
def en32:Ent Tryz.prog:=mc32.ent op32 sh32 (mc32.call2 (ms:=[.t 2]) Tryz.func32 (by kernel_rfl))
def mc33:Got (Tryz.f33.body.map (compile [0,1,2,3,4,6,7,8,9,14,21] Tryz.prog 30)):=.of (y:=PQ.made [0,1,2,3,4,6,7,8,9,14,21] pq 30 [] [] Tryz.f33.body) (by conv=>lhs; cbv) (by kernel_rfl)
def op33:GotO mc33.m:=⟨_,by conv=>lhs; cbv⟩
def sh33:GotS op33.m':=⟨_,by conv=>lhs; simp (config:={ maxSteps:=10000000 }) only [op33,toS,toO,zMI,zOp,binS]⟩
def en33:Ent Tryz.prog:=mc33.ent op33 sh33 (mc33.call2 (ms:=[.cell true 2 2]) Tryz.func33 (by kernel_rfl))
def mc34:Got (Tryz.f34.body.map (compile [0,1,4] Tryz.prog 9)):=.of (y:=PQ.made [0,1,4] pq 9 [] [] Tryz.f34.body) (by conv=>lhs; cbv) (by kernel_rfl)
def op34:GotO mc34.m:=⟨_,by conv=>lhs; cbv⟩
def sh34:GotS op34.m':=⟨_,by conv=>lhs; simp (config:={ maxSteps:=10000000 }) only [op34,toS,toO,zMI,zOp,binS]⟩
def en34:Ent Tryz.prog:=mc34.ent op34 sh34 (mc34.call2 (ms:=[.t 4]) Tryz.func34 (by kernel_rfl))
def mc36:Got (Tryz.f36.body.map (compile [0,1,4] Tryz.prog 9)):=.of (y:=PQ.made [0,1,4] pq 9 [] [] Tryz.f36.body) (by conv=>lhs; cbv) (by kernel_rfl)
def op36:GotO mc36.m:=⟨_,by conv=>lhs; cbv⟩
def sh36:GotS op36.m':=⟨_,by conv=>lhs; simp (config:={ maxSteps:=10000000 }) only [op36,toS,toO,zMI,zOp,binS]⟩
def en36:Ent Tryz.prog:=mc36.ent op36 sh36 (mc36.call2 (ms:=[.t 4]) Tryz.func36 (by kernel_rfl))
def mc40:Got (Tryz.f40.body.map (compile [0,1,3,4,5,6,9] Tryz.prog 18)):=.of (y:=PQ.made [0,1,3,4,5,6,9] pq 18 [] [] Tryz.f40.body) (by conv=>lhs; cbv) (by kernel_rfl)
def op40:GotO mc40.m:=⟨_,by conv=>lhs; cbv⟩
def sh40:GotS op40.m':=⟨_,by conv=>lhs; simp (config:={ maxSteps:=10000000 }) only [op40,toS,toO,zMI,zOp,binS]⟩
def en40:Ent Tryz.prog:=mc40.ent op40 sh40 (mc40.call2 (ms:=[.t 4,.t 5]) Tryz.func40 (by kernel_rfl))
def mc41:Got (Tryz.f41.body.map (compile [0,1,2,3,5,9,10,11,12] Tryz.prog 24)):=.of (y:=PQ.made [0,1,2,3,5,9,10,11,12] pq 24 [(5,false)] [] Tryz.f41.body) (by conv=>lhs; cbv) (by kernel_rfl)
def op41:GotO mc41.m:=⟨_,by conv=>lhs; cbv⟩
def sh41:GotS op41.m':=⟨_,by conv=>lhs; simp (config:={ maxSteps:=10000000 }) only [op41,toS,toO,zMI,zOp,binS]⟩
def en41:Ent Tryz.prog:=mc41.ent op41 sh41 (mc41.call2 (ms:=[.cell true 4 2]) Tryz.func41 (by kernel_rfl))
def mc42:Got (Tryz.f42.body.map (compile [0,2,4,9] Tryz.prog 19)):=.of (y:=PQ.made [0,2,4,9] pq 19 [] [] Tryz.f42.body) (by conv=>lhs; cbv) (by kernel_rfl)
def op42:GotO mc42.m:=⟨_,by conv=>lhs; cbv⟩
def sh42:GotS op42.m':=⟨_,by conv=>lhs; simp (config:={ maxSteps:=10000000 }) only [op42,toS,toO,zMI,zOp,binS]⟩
def en42:Ent Tryz.prog:=mc42.ent op42 sh42 (mc42.call2 (ms:=[.t 2]) Tryz.func42 (by kernel_rfl))
def mc43:Got (Tryz.f43.body.map (compile [0,2] Tryz.prog 6)):=.of (y:=PQ.made [0,2] pq 6 [] [] Tryz.f43.body) (by conv=>lhs; cbv) (by kernel_rfl)
def op43:GotO mc43.m:=⟨_,by conv=>lhs; cbv⟩
def sh43:GotS op43.m':=⟨_,by conv=>lhs; simp (config:={ maxSteps:=10000000 }) only [op43,toS,toO,zMI,zOp,binS]⟩
def en43:Ent Tryz.prog:=mc43.ent op43 sh43 (mc43.call2 (ms:=[.t 2]) Tryz.func43 (by kernel_rfl))
def mc45:Got (Tryz.f45.body.map (compile [0,2] Tryz.prog 9)):=.of (y:=PQ.made [0,2] pq 9 [] [] Tryz.f45.body) (by conv=>lhs; cbv) (by kernel_rfl)
def op45:GotO mc45.m:=⟨_,by conv=>lhs; cbv⟩
def sh45:GotS op45.m':=⟨_,by conv=>lhs; simp (config:={ maxSteps:=10000000 }) only [op45,toS,toO,zMI,zOp,binS]⟩
def en45:Ent Tryz.prog:=mc45.ent op45 sh45 (mc45.call2 (ms:=[.t 2]) Tryz.func45 (by kernel_rfl))
def mc46:Got (Tryz.f46.body.map (compile [0,2,3,5,6,8,9,10,11,12,20,25,26,27,28] Tryz.prog 36)):=.of (y:=PQ.made [0,2,3,5,6,8,9,10,11,12,20,25,26,27,28] pq 36 [] [] Tryz.f46.body) (by conv=>lhs; cbv) (by kernel_rfl)
def op46:GotO mc46.m:=⟨_,by conv=>lhs; cbv⟩
def sh46:GotS op46.m':=⟨_,by conv=>lhs; simp (config:={ maxSteps:=10000000 }) only [op46,toS,toO,zMI,zOp,binS]⟩
def en46:Ent Tryz.prog:=mc46.ent op46 sh46 (mc46.call2 (ms:=[.t 2]) Tryz.func46 (by kernel_rfl))
def mc47:Got (Tryz.f47.body.map (compile [0,1,2,3,5,8,10,11,12,14,15,16,17,27] Tryz.prog 39)):=.of (y:=PQ.made [0,1,2,3,5,8,10,11,12,14,15,16,17,27] pq 39 [(7,false)] [] Tryz.f47.body) (by conv=>lhs; cbv) (by kernel_rfl)
def op47:GotO mc47.m:=⟨_,by conv=>lhs; cbv⟩
def sh47:GotS op47.m':=⟨_,by conv=>lhs; simp (config:={ maxSteps:=10000000 }) only [op47,toS,toO,zMI,zOp,binS]⟩
def en47:Ent Tryz.prog:=mc47.ent op47 sh47 (mc47.call2 (ms:=[.t 8]) Tryz.func47 (by kernel_rfl))
def mc48:Got (Tryz.f48.body.map (compile [0,1,2,4,6,7,9,11,12,13,14,25,30,31,43,55] Tryz.prog 67)):=.of (y:=PQ.made [0,1,2,4,6,7,9,11,12,13,14,25,30,31,43,55] pq 67 [(9,false),(9,false)] [] Tryz.f48.body) (by conv=>lhs; cbv) (by kernel_rfl)
def op48:GotO mc48.m:=⟨_,by conv=>lhs; cbv⟩
def sh48:GotS op48.m':=⟨_,by conv=>lhs; simp (config:={ maxSteps:=10000000 }) only [op48,toS,toO,zMI,zOp,binS]⟩
def en48:Ent Tryz.prog:=mc48.ent op48 sh48 (mc48.call2 (ms:=[.t 6]) Tryz.func48 (by kernel_rfl))
end
end Go.Proofs.YtiehnbbbhcaacaaGreatDoor.Ev
set_option linter.all false
set_option maxRecDepth 100000
set_option maxHeartbeats 4000000
namespace Go.Proofs.YtiehnbbbhcaacaaGreatDoor.Ev
open Go.AM
noncomputable section
def mc49:Got (Tryz.f49.body.map (compile [0,1,3,4,5,6,7,15] Tryz.prog 20)):=.of (y:=PQ.made [0,1,3,4,5,6,7,15] pq 20 [] [] Tryz.f49.body) (by conv=>lhs; cbv) (by kernel_rfl)
def op49:GotO mc49.m:=⟨_,by conv=>lhs; cbv⟩
def sh49:GotS op49.m':=⟨_,by conv=>lhs; simp (config:={ maxSteps:=10000000 }) only [op49,toS,toO,zMI,zOp,binS]⟩
def en49:Ent Tryz.prog:=mc49.ent op49 sh49 (mc49.call2 (ms:=[.cell true 11 4,.t 5]) Tryz.func49 (by kernel_rfl))
def mc50:Got (Tryz.f50.body.map (compile [0,1,3,4,5,6,7,16] Tryz.prog 34)):=.of (y:=PQ.made [0,1,3,4,5,6,7,16] pq 34 [(5,false)] [] Tryz.f50.body) (by conv=>lhs; cbv) (by kernel_rfl)
def op50:GotO mc50.m:=⟨_,by conv=>lhs; cbv⟩
def sh50:GotS op50.m':=⟨_,by conv=>lhs; simp (config:={ maxSteps:=10000000 }) only [op50,toS,toO,zMI,zOp,binS]⟩
def en50:Ent Tryz.prog:=mc50.ent op50 sh50 (mc50.call2 (ms:=[.cell true 12 4,.t 5]) Tryz.func50 (by kernel_rfl))
def mc51:Got (Tryz.f51.body.map (compile [0,1,2,10] Tryz.prog 15)):=.of (y:=PQ.made [0,1,2,10] pq 15 [] [] Tryz.f51.body) (by conv=>lhs; cbv) (by kernel_rfl)
def op51:GotO mc51.m:=⟨_,by conv=>lhs; cbv⟩
def sh51:GotS op51.m':=⟨_,by conv=>lhs; simp (config:={ maxSteps:=10000000 }) only [op51,toS,toO,zMI,zOp,binS]⟩
def en51:Ent Tryz.prog:=mc51.ent op51 sh51 (mc51.call2 (ms:=[.cell true 11 2]) Tryz.func51 (by kernel_rfl))
def mc52:Got (Tryz.f52.body.map (compile [0,1,3,4,5,6,7,8,9,11,12,16,28,39,40,41,42,54,90] Tryz.prog 93)):=.of (y:=PQ.made [0,1,3,4,5,6,7,8,9,11,12,16,28,39,40,41,42,54,90] pq 93 [(9,false),(6,false)] [] Tryz.f52.body) (by conv=>lhs; cbv) (by kernel_rfl)
def op52:GotO mc52.m:=⟨_,by conv=>lhs; cbv⟩
def sh52:GotS op52.m':=⟨_,by conv=>lhs; simp (config:={ maxSteps:=10000000 }) only [op52,toS,toO,zMI,zOp,binS]⟩
def en52:Ent Tryz.prog:=mc52.ent op52 sh52 (mc52.call2 (ms:=[.cell true 2 4,.t 5]) Tryz.func52 (by kernel_rfl))
def mc53:Got (Tryz.f53.body.map (compile [0,1,2,13,23,32,33] Tryz.prog 38)):=.of (y:=PQ.made [0,1,2,13,23,32,33] pq 38 [] [] Tryz.f53.body) (by conv=>lhs; cbv) (by kernel_rfl)
def op53:GotO mc53.m:=⟨_,by conv=>lhs; cbv⟩
def sh53:GotS op53.m':=⟨_,by conv=>lhs; simp (config:={ maxSteps:=10000000 }) only [op53,toS,toO,zMI,zOp,binS]⟩
def en53:Ent Tryz.prog:=mc53.ent op53 sh53 (mc53.call2 (ms:=[.t 2]) Tryz.func53 (by kernel_rfl))
def mc54:Got (Tryz.f54.body.map (compile [0,2,3,4,24,28,39,50,61,76,91,106,111,117,128,137,147,156] Tryz.prog 166)):=.of (y:=PQ.made [0,2,3,4,24,28,39,50,61,76,91,106,111,117,128,137,147,156] pq 166 [(12,false),(8,false),(8,false),(8,false),(12,false),(12,false),(12,false),(9,false),(8,false),(8,false)] [] Tryz.f54.body) (by conv=>lhs; cbv) (by kernel_rfl)
def op54:GotO mc54.m:=⟨_,by conv=>lhs; cbv⟩
def sh54:GotS op54.m':=⟨_,by conv=>lhs; simp (config:={ maxSteps:=10000000 }) only [op54,toS,toO,zMI,zOp,binS]⟩
def en54:Ent Tryz.prog:=mc54.ent op54 sh54 (mc54.call2 (ms:=[]) Tryz.func54 (by kernel_rfl))
def mc55:Got (Tryz.f55.body.map (compile [0,1,2] Tryz.prog 19)):=.of (y:=PQ.made [0,1,2] pq 19 [] [] Tryz.f55.body) (by conv=>lhs; cbv) (by kernel_rfl)
def op55:GotO mc55.m:=⟨_,by conv=>lhs; cbv⟩
def sh55:GotS op55.m':=⟨_,by conv=>lhs; simp (config:={ maxSteps:=10000000 }) only [op55,toS,toO,zMI,zOp,binS]⟩
def en55:Ent Tryz.prog:=mc55.ent op55 sh55 (mc55.call2 (ms:=[]) Tryz.func55 (by kernel_rfl))
def mc56:Got (Tryz.f56.body.map (compile [0,1,4,5,6,7,8,9,10,14,17,18,24,38,43] Tryz.prog 58)):=.of (y:=PQ.made [0,1,4,5,6,7,8,9,10,14,17,18,24,38,43] pq 58 [(2,false)] [] Tryz.f56.body) (by conv=>lhs; cbv) (by kernel_rfl)
def op56:GotO mc56.m:=⟨_,by conv=>lhs; cbv⟩
def sh56:GotS op56.m':=⟨_,by conv=>lhs; simp (config:={ maxSteps:=10000000 }) only [op56,toS,toO,zMI,zOp,binS]⟩
def en56:Ent Tryz.prog:=mc56.ent op56 sh56 (mc56.call2 (ms:=[.t 4,.cell true 2 5]) Tryz.func56 (by kernel_rfl))
def mc57:Got (Tryz.f57.body.map (compile [0,1,4,5] Tryz.prog 27)):=.of (y:=PQ.made [0,1,4,5] pq 27 [] [] Tryz.f57.body) (by conv=>lhs; cbv) (by kernel_rfl)
def op57:GotO mc57.m:=⟨_,by conv=>lhs; cbv⟩
def sh57:GotS op57.m':=⟨_,by conv=>lhs; simp (config:={ maxSteps:=10000000 }) only [op57,toS,toO,zMI,zOp,binS]⟩
def en57:Ent Tryz.prog:=mc57.ent op57 sh57 (mc57.call2 (ms:=[.t 4]) Tryz.func57 (by kernel_rfl))
def mc59:Got (Tryz.f59.body.map (compile [0,1,2,3,4,5,6,7,8,9,10,11,15,20,27,34,59,75,105,119,139] Tryz.prog 147)):=.of (y:=PQ.made [0,1,2,3,4,5,6,7,8,9,10,11,15,20,27,34,59,75,105,119,139] pq 147 [(5,false),(5,false),(6,false),(7,false),(5,false),(5,false),(7,false)] [] Tryz.f59.body) (by conv=>lhs; cbv) (by kernel_rfl)
def op59:GotO mc59.m:=⟨_,by conv=>lhs; cbv⟩
def sh59:GotS op59.m':=⟨_,by conv=>lhs; simp (config:={ maxSteps:=10000000 }) only [op59,toS,toO,zMI,zOp,binS]⟩
def en59:Ent Tryz.prog:=mc59.ent op59 sh59 (mc59.call2 (ms:=[.cell true 7 4]) Tryz.func59 (by kernel_rfl))
def mc60:Got (Tryz.f60.body.map (compile [0,4] Tryz.prog 7)):=.of (y:=PQ.made [0,4] pq 7 [] [] Tryz.f60.body) (by conv=>lhs; cbv) (by kernel_rfl)
def op60:GotO mc60.m:=⟨_,by conv=>lhs; cbv⟩
def sh60:GotS op60.m':=⟨_,by conv=>lhs; simp (config:={ maxSteps:=10000000 }) only [op60,toS,toO,zMI,zOp,binS]⟩
def en60:Ent Tryz.prog:=mc60.ent op60 sh60 (mc60.call2 (ms:=[]) Tryz.func60 (by kernel_rfl))
def mc61:Got (Tryz.f61.body.map (compile [0,1,2,4,6,7,9,11,12,18,23,35,36,37,38,53,54,55,56] Tryz.prog 71)):=.of (y:=PQ.made [0,1,2,4,6,7,9,11,12,18,23,35,36,37,38,53,54,55,56] pq 71 [(8,false),(10,false)] [] Tryz.f61.body) (by conv=>lhs; cbv) (by kernel_rfl)
def op61:GotO mc61.m:=⟨_,by conv=>lhs; cbv⟩
def sh61:GotS op61.m':=⟨_,by conv=>lhs; simp (config:={ maxSteps:=10000000 }) only [op61,toS,toO,zMI,zOp,binS]⟩
def en61:Ent Tryz.prog:=mc61.ent op61 sh61 (mc61.call2 (ms:=[]) Tryz.func61 (by kernel_rfl))
end
end Go.Proofs.YtiehnbbbhcaacaaGreatDoor.Ev
set_option linter.all false
set_option maxRecDepth 100000
set_option maxHeartbeats 4000000
namespace Go.Proofs.YtiehnbbbhcaacaaGreatDoor.Ev
open Go.AM
noncomputable section
def mc62:Got (Tryz.f62.body.map (compile [0,1,4] Tryz.prog 9)):=.of (y:=PQ.made [0,1,4] pq 9 [] [] Tryz.f62.body) (by conv=>lhs; cbv) (by kernel_rfl)
def op62:GotO mc62.m:=⟨_,by conv=>lhs; cbv⟩
def sh62:GotS op62.m':=⟨_,by conv=>lhs; simp (config:={ maxSteps:=10000000 }) only [op62,toS,toO,zMI,zOp,binS]⟩
def en62:Ent Tryz.prog:=mc62.ent op62 sh62 (mc62.call2 (ms:=[.t 4]) Tryz.func62 (by kernel_rfl))
def mc63:Got (Tryz.f63.body.map (compile [0,2] Tryz.prog 16)):=.of (y:=PQ.made [0,2] pq 16 [] [] Tryz.f63.body) (by conv=>lhs; cbv) (by kernel_rfl)
def op63:GotO mc63.m:=⟨_,by conv=>lhs; cbv⟩
def sh63:GotS op63.m':=⟨_,by conv=>lhs; simp (config:={ maxSteps:=10000000 }) only [op63,toS,toO,zMI,zOp,binS]⟩
def en63:Ent Tryz.prog:=mc63.ent op63 sh63 (mc63.call2 (ms:=[.t 2]) Tryz.func63 (by kernel_rfl))
def mc64:Got (Tryz.f64.body.map (compile [0,1,2,3,4,6,10] Tryz.prog 22)):=.of (y:=PQ.made [0,1,2,3,4,6,10] pq 22 [(10,false)] [] Tryz.f64.body) (by conv=>lhs; cbv) (by kernel_rfl)
def op64:GotO mc64.m:=⟨_,by conv=>lhs; cbv⟩
def sh64:GotS op64.m':=⟨_,by conv=>lhs; simp (config:={ maxSteps:=10000000 }) only [op64,toS,toO,zMI,zOp,binS]⟩
def en64:Ent Tryz.prog:=mc64.ent op64 sh64 (mc64.call2 (ms:=[.cell true 17 10]) Tryz.func64 (by kernel_rfl))
def mc65:Got (Tryz.f65.body.map (compile [0,1,2,3,24] Tryz.prog 28)):=.of (y:=PQ.made [0,1,2,3,24] pq 28 [] [] Tryz.f65.body) (by conv=>lhs; cbv) (by kernel_rfl)
def op65:GotO mc65.m:=⟨_,by conv=>lhs; cbv⟩
def sh65:GotS op65.m':=⟨_,by conv=>lhs; simp (config:={ maxSteps:=10000000 }) only [op65,toS,toO,zMI,zOp,binS]⟩
def en65:Ent Tryz.prog:=mc65.ent op65 sh65 (mc65.call2 (ms:=[]) Tryz.func65 (by kernel_rfl))
def mc67:Got (Tryz.f67.body.map (compile [0,1,2,4,6,7,8,10,11,12,13,25,26,27,28] Tryz.prog 74)):=.of (y:=PQ.made [0,1,2,4,6,7,8,10,11,12,13,25,26,27,28] pq 74 [(7,false),(9,false)] [] Tryz.f67.body) (by conv=>lhs; cbv) (by kernel_rfl)
def op67:GotO mc67.m:=⟨_,by conv=>lhs; cbv⟩
def sh67:GotS op67.m':=⟨_,by conv=>lhs; simp (config:={ maxSteps:=10000000 }) only [op67,toS,toO,zMI,zOp,binS]⟩
def en67:Ent Tryz.prog:=mc67.ent op67 sh67 (mc67.call2 (ms:=[.cell true 17 6]) Tryz.func67 (by kernel_rfl))
def mc68:Got (Tryz.f68.body.map (compile [0,1,2,4,6,7,8,9,10,11,12,18,19,24,28] Tryz.prog 72)):=.of (y:=PQ.made [0,1,2,4,6,7,8,9,10,11,12,18,19,24,28] pq 72 [(9,false),(9,false)] [] Tryz.f68.body) (by conv=>lhs; cbv) (by kernel_rfl)
def op68:GotO mc68.m:=⟨_,by conv=>lhs; cbv⟩
def sh68:GotS op68.m':=⟨_,by conv=>lhs; simp (config:={ maxSteps:=10000000 }) only [op68,toS,toO,zMI,zOp,binS]⟩
def en68:Ent Tryz.prog:=mc68.ent op68 sh68 (mc68.call2 (ms:=[.cell true 17 6]) Tryz.func68 (by kernel_rfl))
def mc69:Got (Tryz.f69.body.map (compile [0,1,2,4,6,7,8,9,17,28,36,41,44] Tryz.prog 64)):=.of (y:=PQ.made [0,1,2,4,6,7,8,9,17,28,36,41,44] pq 64 [(6,false),(8,false),(9,false)] [] Tryz.f69.body) (by conv=>lhs; cbv) (by kernel_rfl)
def op69:GotO mc69.m:=⟨_,by conv=>lhs; cbv⟩
def sh69:GotS op69.m':=⟨_,by conv=>lhs; simp (config:={ maxSteps:=10000000 }) only [op69,toS,toO,zMI,zOp,binS]⟩
def en69:Ent Tryz.prog:=mc69.ent op69 sh69 (mc69.call2 (ms:=[.cell true 17 6]) Tryz.func69 (by kernel_rfl))
def mc70:Got (Tryz.f70.body.map (compile [0,1,2,4,6,7,8,9,10,11,12,13,21,22,28,34,40,46,58,78,86,87,88,115,135] Tryz.prog 154)):=.of (y:=PQ.made [0,1,2,4,6,7,8,9,10,11,12,13,21,22,28,34,40,46,58,78,86,87,88,115,135] pq 154 [(7,false),(11,false),(9,false),(9,false)] [] Tryz.f70.body) (by conv=>lhs; cbv) (by kernel_rfl)
def op70:GotO mc70.m:=⟨_,by conv=>lhs; cbv⟩
def sh70:GotS op70.m':=⟨_,by conv=>lhs; simp (config:={ maxSteps:=10000000 }) only [op70,toS,toO,zMI,zOp,binS]⟩
def en70:Ent Tryz.prog:=mc70.ent op70 sh70 (mc70.call2 (ms:=[.cell true 17 6]) Tryz.func70 (by kernel_rfl))
def mc71:Got (Tryz.f71.body.map (compile [0,2,7,15] Tryz.prog 31)):=.of (y:=PQ.made [0,2,7,15] pq 31 [] [] Tryz.f71.body) (by conv=>lhs; cbv) (by kernel_rfl)
def op71:GotO mc71.m:=⟨_,by conv=>lhs; cbv⟩
def sh71:GotS op71.m':=⟨_,by conv=>lhs; simp (config:={ maxSteps:=10000000 }) only [op71,toS,toO,zMI,zOp,binS]⟩
def en71:Ent Tryz.prog:=mc71.ent op71 sh71 (mc71.call2 (ms:=[.t 2]) Tryz.func71 (by kernel_rfl))
def mc72:Got (Tryz.f72.body.map (compile [0,1,3,4,5,7,22,29,30,31,32] Tryz.prog 45)):=.of (y:=PQ.made [0,1,3,4,5,7,22,29,30,31,32] pq 45 [(6,false)] [] Tryz.f72.body) (by conv=>lhs; cbv) (by kernel_rfl)
def op72:GotO mc72.m:=⟨_,by conv=>lhs; cbv⟩
def sh72:GotS op72.m':=⟨_,by conv=>lhs; simp (config:={ maxSteps:=10000000 }) only [op72,toS,toO,zMI,zOp,binS]⟩
def en72:Ent Tryz.prog:=mc72.ent op72 sh72 (mc72.call2 (ms:=[.cell true 8 4]) Tryz.func72 (by kernel_rfl))
def mc73:Got (Tryz.f73.body.map (compile [0,1,4,5,6,7,9,18,23,24,25,26] Tryz.prog 40)):=.of (y:=PQ.made [0,1,4,5,6,7,9,18,23,24,25,26] pq 40 [] [] Tryz.f73.body) (by conv=>lhs; cbv) (by kernel_rfl)
def op73:GotO mc73.m:=⟨_,by conv=>lhs; cbv⟩
def sh73:GotS op73.m':=⟨_,by conv=>lhs; simp (config:={ maxSteps:=10000000 }) only [op73,toS,toO,zMI,zOp,binS]⟩
def en73:Ent Tryz.prog:=mc73.ent op73 sh73 (mc73.call2 (ms:=[.t 4]) Tryz.func73 (by kernel_rfl))
def mc74:Got (Tryz.f74.body.map (compile [0,1,4,5,7,14,34,35,36,37] Tryz.prog 50)):=.of (y:=PQ.made [0,1,4,5,7,14,34,35,36,37] pq 50 [(14,false),(6,false)] [] Tryz.f74.body) (by conv=>lhs; cbv) (by kernel_rfl)
def op74:GotO mc74.m:=⟨_,by conv=>lhs; cbv⟩
def sh74:GotS op74.m':=⟨_,by conv=>lhs; simp (config:={ maxSteps:=10000000 }) only [op74,toS,toO,zMI,zOp,binS]⟩
def en74:Ent Tryz.prog:=mc74.ent op74 sh74 (mc74.call2 (ms:=[.cell true 4 4]) Tryz.func74 (by kernel_rfl))
end
end Go.Proofs.YtiehnbbbhcaacaaGreatDoor.Ev
set_option linter.all false
set_option maxRecDepth 100000
set_option maxHeartbeats 4000000
namespace Go.Proofs.YtiehnbbbhcaacaaGreatDoor.Ev
open Go.AM
noncomputable section
def mc77:Got (Tryz.f77.body.map (compile [0,1,2,4,6,9,11,12,13,14,19,22,23,24,25,37] Tryz.prog 39)):=.of (y:=PQ.made [0,1,2,4,6,9,11,12,13,14,19,22,23,24,25,37] pq 39 [] [] Tryz.f77.body) (by conv=>lhs; cbv) (by kernel_rfl)
def op77:GotO mc77.m:=⟨_,by conv=>lhs; cbv⟩
def sh77:GotS op77.m':=⟨_,by conv=>lhs; simp (config:={ maxSteps:=10000000 }) only [op77,toS,toO,zMI,zOp,binS]⟩
def en77:Ent Tryz.prog:=mc77.ent op77 sh77 (mc77.call2 (ms:=[.t 2]) Tryz.func77 (by kernel_rfl))
def mc80:Got (Tryz.f80.body.map (compile [0,1,4,5,7,8,9,16] Tryz.prog 19)):=.of (y:=PQ.made [0,1,4,5,7,8,9,16] pq 19 [] [] Tryz.f80.body) (by conv=>lhs; cbv) (by kernel_rfl)
def op80:GotO mc80.m:=⟨_,by conv=>lhs; cbv⟩
def sh80:GotS op80.m':=⟨_,by conv=>lhs; simp (config:={ maxSteps:=10000000 }) only [op80,toS,toO,zMI,zOp,binS]⟩
def en80:Ent Tryz.prog:=mc80.ent op80 sh80 (mc80.call2 (ms:=[.t 4]) Tryz.func80 (by kernel_rfl))
def mc81:Got (Tryz.f81.body.map (compile [0,1,4,5,7,8,9,16] Tryz.prog 19)):=.of (y:=PQ.made [0,1,4,5,7,8,9,16] pq 19 [] [] Tryz.f81.body) (by conv=>lhs; cbv) (by kernel_rfl)
def op81:GotO mc81.m:=⟨_,by conv=>lhs; cbv⟩
def sh81:GotS op81.m':=⟨_,by conv=>lhs; simp (config:={ maxSteps:=10000000 }) only [op81,toS,toO,zMI,zOp,binS]⟩
def en81:Ent Tryz.prog:=mc81.ent op81 sh81 (mc81.call2 (ms:=[.t 4]) Tryz.func81 (by kernel_rfl))
def mc83:Got (Tryz.f83.body.map (compile [0,1,2,3,5,7,9,10,11,12,21,22,23,24] Tryz.prog 38)):=.of (y:=PQ.made [0,1,2,3,5,7,9,10,11,12,21,22,23,24] pq 38 [(8,false)] [] Tryz.f83.body) (by conv=>lhs; cbv) (by kernel_rfl)
def op83:GotO mc83.m:=⟨_,by conv=>lhs; cbv⟩
def sh83:GotS op83.m':=⟨_,by conv=>lhs; simp (config:={ maxSteps:=10000000 }) only [op83,toS,toO,zMI,zOp,binS]⟩
def en83:Ent Tryz.prog:=mc83.ent op83 sh83 (mc83.call2 (ms:=[.t 2]) Tryz.func83 (by kernel_rfl))
def mc84:Got (Tryz.f84.body.map (compile [0,1,2,3,5,8,9,10,11,14,19,31,37,43,49,55,68,82,95] Tryz.prog 110)):=.of (y:=PQ.made [0,1,2,3,5,8,9,10,11,14,19,31,37,43,49,55,68,82,95] pq 110 [] [] Tryz.f84.body) (by conv=>lhs; cbv) (by kernel_rfl)
def op84:GotO mc84.m:=⟨_,by conv=>lhs; cbv⟩
def sh84:GotS op84.m':=⟨_,by conv=>lhs; simp (config:={ maxSteps:=10000000 }) only [op84,toS,toO,zMI,zOp,binS]⟩
def en84:Ent Tryz.prog:=mc84.ent op84 sh84 (mc84.call2 (ms:=[.t 8,.t 9]) Tryz.func84 (by kernel_rfl))
def mc86:Got (Tryz.f86.body.map (compile [0,1,4,6,16] Tryz.prog 27)):=.of (y:=PQ.made [0,1,4,6,16] pq 27 [] [] Tryz.f86.body) (by conv=>lhs; cbv) (by kernel_rfl)
def op86:GotO mc86.m:=⟨_,by conv=>lhs; cbv⟩
def sh86:GotS op86.m':=⟨_,by conv=>lhs; simp (config:={ maxSteps:=10000000 }) only [op86,toS,toO,zMI,zOp,binS]⟩
def en86:Ent Tryz.prog:=mc86.ent op86 sh86 (mc86.call2 (ms:=[.t 4]) Tryz.func86 (by kernel_rfl))
def mc87:Got (Tryz.f87.body.map (compile [0,1,2,4,5,6,7,8,9,10,12,13,17,27,35,37,38,39,40,57] Tryz.prog 63)):=.of (y:=PQ.made [0,1,2,4,5,6,7,8,9,10,12,13,17,27,35,37,38,39,40,57] pq 63 [(8,false),(6,false),(13,false)] [] Tryz.f87.body) (by conv=>lhs; cbv) (by kernel_rfl)
def op87:GotO mc87.m:=⟨_,by conv=>lhs; cbv⟩
def sh87:GotS op87.m':=⟨_,by conv=>lhs; simp (config:={ maxSteps:=10000000 }) only [op87,toS,toO,zMI,zOp,binS]⟩
def en87:Ent Tryz.prog:=mc87.ent op87 sh87 (mc87.call2 (ms:=[.t 4,.t 5]) Tryz.func87 (by kernel_rfl))
def mc88:Got (Tryz.f88.body.map (compile [0,1,2,3,8,9,10,22,34,46,58,70,83] Tryz.prog 105)):=.of (y:=PQ.made [0,1,2,3,8,9,10,22,34,46,58,70,83] pq 105 [(8,false),(8,false),(8,false),(8,false),(8,false),(10,false),(8,false)] [] Tryz.f88.body) (by conv=>lhs; cbv) (by kernel_rfl)
def op88:GotO mc88.m:=⟨_,by conv=>lhs; cbv⟩
def sh88:GotS op88.m':=⟨_,by conv=>lhs; simp (config:={ maxSteps:=10000000 }) only [op88,toS,toO,zMI,zOp,binS]⟩
def en88:Ent Tryz.prog:=mc88.ent op88 sh88 (mc88.call2 (ms:=[.t 8]) Tryz.func88 (by kernel_rfl))
def mc89:Got (Tryz.f89.body.map (compile [0,1,2,6,7,8,9,16,34,55,65,75] Tryz.prog 91)):=.of (y:=PQ.made [0,1,2,6,7,8,9,16,34,55,65,75] pq 91 [(14,false)] [] Tryz.f89.body) (by conv=>lhs; cbv) (by kernel_rfl)
def op89:GotO mc89.m:=⟨_,by conv=>lhs; cbv⟩
def sh89:GotS op89.m':=⟨_,by conv=>lhs; simp (config:={ maxSteps:=10000000 }) only [op89,toS,toO,zMI,zOp,binS]⟩
def en89:Ent Tryz.prog:=mc89.ent op89 sh89 (mc89.call2 (ms:=[.t 6]) Tryz.func89 (by kernel_rfl))
def mc90:Got (Tryz.f90.body.map (compile [0,1,2,3,7,8,9,15,16,24,32,40,46,51,73,81,88,95] Tryz.prog 107)):=.of (y:=PQ.made [0,1,2,3,7,8,9,15,16,24,32,40,46,51,73,81,88,95] pq 107 [(7,false),(12,false)] [] Tryz.f90.body) (by conv=>lhs; cbv) (by kernel_rfl)
def op90:GotO mc90.m:=⟨_,by conv=>lhs; cbv⟩
def sh90:GotS op90.m':=⟨_,by conv=>lhs; simp (config:={ maxSteps:=10000000 }) only [op90,toS,toO,zMI,zOp,binS]⟩
def en90:Ent Tryz.prog:=mc90.ent op90 sh90 (mc90.call2 (ms:=[.cell true 11 8]) Tryz.func90 (by kernel_rfl))
def mc91:Got (Tryz.f91.body.map (compile [0,1,3,4,5] Tryz.prog 19)):=.of (y:=PQ.made [0,1,3,4,5] pq 19 [] [] Tryz.f91.body) (by conv=>lhs; cbv) (by kernel_rfl)
def op91:GotO mc91.m:=⟨_,by conv=>lhs; cbv⟩
def sh91:GotS op91.m':=⟨_,by conv=>lhs; simp (config:={ maxSteps:=10000000 }) only [op91,toS,toO,zMI,zOp,binS]⟩
def en91:Ent Tryz.prog:=mc91.ent op91 sh91 (mc91.call2 (ms:=[.t 4]) Tryz.func91 (by kernel_rfl))
def mc92:Got (Tryz.f92.body.map (compile [0,1,2,3,5,13,15,16,17,18] Tryz.prog 27)):=.of (y:=PQ.made [0,1,2,3,5,13,15,16,17,18] pq 27 [] [] Tryz.f92.body) (by conv=>lhs; cbv) (by kernel_rfl)
def op92:GotO mc92.m:=⟨_,by conv=>lhs; cbv⟩
def sh92:GotS op92.m':=⟨_,by conv=>lhs; simp (config:={ maxSteps:=10000000 }) only [op92,toS,toO,zMI,zOp,binS]⟩
def en92:Ent Tryz.prog:=mc92.ent op92 sh92 (mc92.call2 (ms:=[.t 2]) Tryz.func92 (by kernel_rfl))
end
end Go.Proofs.YtiehnbbbhcaacaaGreatDoor.Ev
set_option linter.all false
set_option maxRecDepth 100000
set_option maxHeartbeats 4000000
namespace Go.Proofs.YtiehnbbbhcaacaaGreatDoor.Ev
open Go.AM
noncomputable section
def mc93:Got (Tryz.f93.body.map (compile [0,1,2,3,4,6,10,11,13,14,16,17,18,20,33,34,35,36,41,67,76,99,131,132,133,134] Tryz.prog 150)):=.of (y:=PQ.made [0,1,2,3,4,6,10,11,13,14,16,17,18,20,33,34,35,36,41,67,76,99,131,132,133,134] pq 150 [(7,false),(15,false),(22,false),(9,false)] [] Tryz.f93.body) (by conv=>lhs; cbv) (by kernel_rfl)
def op93:GotO mc93.m:=⟨_,by conv=>lhs; cbv⟩
def sh93:GotS op93.m':=⟨_,by conv=>lhs; simp (config:={ maxSteps:=10000000 }) only [op93,toS,toO,zMI,zOp,binS]⟩
def en93:Ent Tryz.prog:=mc93.ent op93 sh93 (mc93.call2 (ms:=[.cell true 11 10]) Tryz.func93 (by kernel_rfl))
def mc94:Got (Tryz.f94.body.map (compile [0,1,2,3,5,7,8,9,10] Tryz.prog 19)):=.of (y:=PQ.made [0,1,2,3,5,7,8,9,10] pq 19 [] [] Tryz.f94.body) (by conv=>lhs; cbv) (by kernel_rfl)
def op94:GotO mc94.m:=⟨_,by conv=>lhs; cbv⟩
def sh94:GotS op94.m':=⟨_,by conv=>lhs; simp (config:={ maxSteps:=10000000 }) only [op94,toS,toO,zMI,zOp,binS]⟩
def en94:Ent Tryz.prog:=mc94.ent op94 sh94 (mc94.call2 (ms:=[.t 2]) Tryz.func94 (by kernel_rfl))
def mc95:Got (Tryz.f95.body.map (compile [0,1,2,3,4,5,6,15,17,18,19,20,30] Tryz.prog 32)):=.of (y:=PQ.made [0,1,2,3,4,5,6,15,17,18,19,20,30] pq 32 [(5,false)] [] Tryz.f95.body) (by conv=>lhs; cbv) (by kernel_rfl)
def op95:GotO mc95.m:=⟨_,by conv=>lhs; cbv⟩
def sh95:GotS op95.m':=⟨_,by conv=>lhs; simp (config:={ maxSteps:=10000000 }) only [op95,toS,toO,zMI,zOp,binS]⟩
def en95:Ent Tryz.prog:=mc95.ent op95 sh95 (mc95.call2 (ms:=[.t 4]) Tryz.func95 (by kernel_rfl))
def mc97:Got (Tryz.f97.body.map (compile [0,1,2,3,6,7,9,10,11,12,13,14,15,16,17,30,31,32,33,38,51,78,112,125,126,127,128,141,174] Tryz.prog 183)):=.of (y:=PQ.made [0,1,2,3,6,7,9,10,11,12,13,14,15,16,17,30,31,32,33,38,51,78,112,125,126,127,128,141,174] pq 183 [(7,false),(14,false),(16,false),(10,false),(7,false)] [] Tryz.f97.body) (by conv=>lhs; cbv) (by kernel_rfl)
def op97:GotO mc97.m:=⟨_,by conv=>lhs; cbv⟩
def sh97:GotS op97.m':=⟨_,by conv=>lhs; simp (config:={ maxSteps:=10000000 }) only [op97,toS,toO,zMI,zOp,binS]⟩
def en97:Ent Tryz.prog:=mc97.ent op97 sh97 (mc97.call2 (ms:=[.cell true 11 6]) Tryz.func97 (by kernel_rfl))
def mc98:Got (Tryz.f98.body.map (compile [0,1,3,4,5,7,8,10,12,17,18,19,20,36,45,46,47,48,77,81,84,85,86,87,98] Tryz.prog 104)):=.of (y:=PQ.made [0,1,3,4,5,7,8,10,12,17,18,19,20,36,45,46,47,48,77,81,84,85,86,87,98] pq 104 [(13,false),(7,false)] [] Tryz.f98.body) (by conv=>lhs; cbv) (by kernel_rfl)
def op98:GotO mc98.m:=⟨_,by conv=>lhs; cbv⟩
def sh98:GotS op98.m':=⟨_,by conv=>lhs; simp (config:={ maxSteps:=10000000 }) only [op98,toS,toO,zMI,zOp,binS]⟩
def en98:Ent Tryz.prog:=mc98.ent op98 sh98 (mc98.call2 (ms:=[.t 4]) Tryz.func98 (by kernel_rfl))
def mc99:Got (Tryz.f99.body.map (compile [0,1,2,4,5,6,7,8,9,10,18,26,27,28,37,41,58,74] Tryz.prog 77)):=.of (y:=PQ.made [0,1,2,4,5,6,7,8,9,10,18,26,27,28,37,41,58,74] pq 77 [] [] Tryz.f99.body) (by conv=>lhs; cbv) (by kernel_rfl)
def op99:GotO mc99.m:=⟨_,by conv=>lhs; cbv⟩
def sh99:GotS op99.m':=⟨_,by conv=>lhs; simp (config:={ maxSteps:=10000000 }) only [op99,toS,toO,zMI,zOp,binS]⟩
def en99:Ent Tryz.prog:=mc99.ent op99 sh99 (mc99.call2 (ms:=[.t 4,.t 5]) Tryz.func99 (by kernel_rfl))
def mc100:Got (Tryz.f100.body.map (compile [0,1,2,3,5,11,13,19,32,41,48,59] Tryz.prog 66)):=.of (y:=PQ.made [0,1,2,3,5,11,13,19,32,41,48,59] pq 66 [(10,false)] [] Tryz.f100.body) (by conv=>lhs; cbv) (by kernel_rfl)
def op100:GotO mc100.m:=⟨_,by conv=>lhs; cbv⟩
def sh100:GotS op100.m':=⟨_,by conv=>lhs; simp (config:={ maxSteps:=10000000 }) only [op100,toS,toO,zMI,zOp,binS]⟩
def en100:Ent Tryz.prog:=mc100.ent op100 sh100 (mc100.call2 (ms:=[]) Tryz.func100 (by kernel_rfl))
def mc101:Got (Tryz.f101.body.map (compile [0,1,2,4] Tryz.prog 13)):=.of (y:=PQ.made [0,1,2,4] pq 13 [] [] Tryz.f101.body) (by conv=>lhs; cbv) (by kernel_rfl)
def op101:GotO mc101.m:=⟨_,by conv=>lhs; cbv⟩
def sh101:GotS op101.m':=⟨_,by conv=>lhs; simp (config:={ maxSteps:=10000000 }) only [op101,toS,toO,zMI,zOp,binS]⟩
def en101:Ent Tryz.prog:=mc101.ent op101 sh101 (mc101.call2 (ms:=[.t 2]) Tryz.func101 (by kernel_rfl))
def mc102:Got (Tryz.f102.body.map (compile [0,1,2,3,4,5,6,7,8,9,10,17,18,19,23,38,40,41,42,43,51] Tryz.prog 70)):=.of (y:=PQ.made [0,1,2,3,4,5,6,7,8,9,10,17,18,19,23,38,40,41,42,43,51] pq 70 [(7,false),(7,false)] [] Tryz.f102.body) (by conv=>lhs; cbv) (by kernel_rfl)
def op102:GotO mc102.m:=⟨_,by conv=>lhs; cbv⟩
def sh102:GotS op102.m':=⟨_,by conv=>lhs; simp (config:={ maxSteps:=10000000 }) only [op102,toS,toO,zMI,zOp,binS]⟩
def en102:Ent Tryz.prog:=mc102.ent op102 sh102 (mc102.call2 (ms:=[.t 4]) Tryz.func102 (by kernel_rfl))
def mc103:Got (Tryz.f103.body.map (compile [0,1,4] Tryz.prog 9)):=.of (y:=PQ.made [0,1,4] pq 9 [] [] Tryz.f103.body) (by conv=>lhs; cbv) (by kernel_rfl)
def op103:GotO mc103.m:=⟨_,by conv=>lhs; cbv⟩
def sh103:GotS op103.m':=⟨_,by conv=>lhs; simp (config:={ maxSteps:=10000000 }) only [op103,toS,toO,zMI,zOp,binS]⟩
def en103:Ent Tryz.prog:=mc103.ent op103 sh103 (mc103.call2 (ms:=[.t 4]) Tryz.func103 (by kernel_rfl))
def mc104:Got (Tryz.f104.body.map (compile [0,1,2,3] Tryz.prog 8)):=.of (y:=PQ.made [0,1,2,3] pq 8 [] [] Tryz.f104.body) (by conv=>lhs; cbv) (by kernel_rfl)
def op104:GotO mc104.m:=⟨_,by conv=>lhs; cbv⟩
def sh104:GotS op104.m':=⟨_,by conv=>lhs; simp (config:={ maxSteps:=10000000 }) only [op104,toS,toO,zMI,zOp,binS]⟩
def en104:Ent Tryz.prog:=mc104.ent op104 sh104 (mc104.call2 (ms:=[.t 3]) Tryz.func104 (by kernel_rfl))
def mc105:Got (Tryz.f105.body.map (compile [0,1,2,3,4,5,6,7,8,58,60,61,72,81,87,92,98,108] Tryz.prog 113)):=.of (y:=PQ.made [0,1,2,3,4,5,6,7,8,58,60,61,72,81,87,92,98,108] pq 113 [] [] Tryz.f105.body) (by conv=>lhs; cbv) (by kernel_rfl)
def op105:GotO mc105.m:=⟨_,by conv=>lhs; cbv⟩
def sh105:GotS op105.m':=⟨_,by conv=>lhs; simp (config:={ maxSteps:=10000000 }) only [op105,toS,toO,zMI,zOp,binS]⟩
def en105:Ent Tryz.prog:=mc105.ent op105 sh105 (mc105.call2 (ms:=[.t 4]) Tryz.func105 (by kernel_rfl))
end
end Go.Proofs.YtiehnbbbhcaacaaGreatDoor.Ev
set_option linter.all false
set_option maxRecDepth 100000
set_option maxHeartbeats 4000000
namespace Go.Proofs.YtiehnbbbhcaacaaGreatDoor.Ev
open Go.AM
noncomputable section
def mc106:Got (Tryz.f106.body.map (compile [0,1,4] Tryz.prog 9)):=.of (y:=PQ.made [0,1,4] pq 9 [] [] Tryz.f106.body) (by conv=>lhs; cbv) (by kernel_rfl)
def op106:GotO mc106.m:=⟨_,by conv=>lhs; cbv⟩
def sh106:GotS op106.m':=⟨_,by conv=>lhs; simp (config:={ maxSteps:=10000000 }) only [op106,toS,toO,zMI,zOp,binS]⟩
def en106:Ent Tryz.prog:=mc106.ent op106 sh106 (mc106.call2 (ms:=[.t 4]) Tryz.func106 (by kernel_rfl))
def mc107:Got (Tryz.f107.body.map (compile [0,1,3] Tryz.prog 11)):=.of (y:=PQ.made [0,1,3] pq 11 [] [] Tryz.f107.body) (by conv=>lhs; cbv) (by kernel_rfl)
def op107:GotO mc107.m:=⟨_,by conv=>lhs; cbv⟩
def sh107:GotS op107.m':=⟨_,by conv=>lhs; simp (config:={ maxSteps:=10000000 }) only [op107,toS,toO,zMI,zOp,binS]⟩
def en107:Ent Tryz.prog:=mc107.ent op107 sh107 (mc107.call2 (ms:=[.t 3]) Tryz.func107 (by kernel_rfl))
def mc108:Got (Tryz.f108.body.map (compile [0,2] Tryz.prog 5)):=.of (y:=PQ.made [0,2] pq 5 [] [] Tryz.f108.body) (by conv=>lhs; cbv) (by kernel_rfl)
def op108:GotO mc108.m:=⟨_,by conv=>lhs; cbv⟩
def sh108:GotS op108.m':=⟨_,by conv=>lhs; simp (config:={ maxSteps:=10000000 }) only [op108,toS,toO,zMI,zOp,binS]⟩
def en108:Ent Tryz.prog:=mc108.ent op108 sh108 (mc108.call2 (ms:=[.cell true 4 2]) Tryz.func108 (by kernel_rfl))
def mc109:Got (Tryz.f109.body.map (compile [0,1,3,4,5,6,7,9,10,16,23,50,61,78,88,89,94,99,104,108,109,113] Tryz.prog 122)):=.of (y:=PQ.made [0,1,3,4,5,6,7,9,10,16,23,50,61,78,88,89,94,99,104,108,109,113] pq 122 [(13,false),(7,false),(5,false),(5,false),(7,false)] [] Tryz.f109.body) (by conv=>lhs; cbv) (by kernel_rfl)
def op109:GotO mc109.m:=⟨_,by conv=>lhs; cbv⟩
def sh109:GotS op109.m':=⟨_,by conv=>lhs; simp (config:={ maxSteps:=10000000 }) only [op109,toS,toO,zMI,zOp,binS]⟩
def en109:Ent Tryz.prog:=mc109.ent op109 sh109 (mc109.call2 (ms:=[]) Tryz.func109 (by kernel_rfl))
def mc110:Got (Tryz.f110.body.map (compile [0,1,4,10] Tryz.prog 21)):=.of (y:=PQ.made [0,1,4,10] pq 21 [] [] Tryz.f110.body) (by conv=>lhs; cbv) (by kernel_rfl)
def op110:GotO mc110.m:=⟨_,by conv=>lhs; cbv⟩
def sh110:GotS op110.m':=⟨_,by conv=>lhs; simp (config:={ maxSteps:=10000000 }) only [op110,toS,toO,zMI,zOp,binS]⟩
def en110:Ent Tryz.prog:=mc110.ent op110 sh110 (mc110.call2 (ms:=[.t 4]) Tryz.func110 (by kernel_rfl))
def mc111:Got (Tryz.f111.body.map (compile [0,1,2,6,10,20] Tryz.prog 32)):=.of (y:=PQ.made [0,1,2,6,10,20] pq 32 [] [] Tryz.f111.body) (by conv=>lhs; cbv) (by kernel_rfl)
def op111:GotO mc111.m:=⟨_,by conv=>lhs; cbv⟩
def sh111:GotS op111.m':=⟨_,by conv=>lhs; simp (config:={ maxSteps:=10000000 }) only [op111,toS,toO,zMI,zOp,binS]⟩
def en111:Ent Tryz.prog:=mc111.ent op111 sh111 (mc111.call2 (ms:=[.t 6]) Tryz.func111 (by kernel_rfl))
def mc112:Got (Tryz.f112.body.map (compile [0,1,3,5,6,22,28,35,40,59,64,75] Tryz.prog 81)):=.of (y:=PQ.made [0,1,3,5,6,22,28,35,40,59,64,75] pq 81 [(10,false),(16,false),(9,false)] [] Tryz.f112.body) (by conv=>lhs; cbv) (by kernel_rfl)
def op112:GotO mc112.m:=⟨_,by conv=>lhs; cbv⟩
def sh112:GotS op112.m':=⟨_,by conv=>lhs; simp (config:={ maxSteps:=10000000 }) only [op112,toS,toO,zMI,zOp,binS]⟩
def en112:Ent Tryz.prog:=mc112.ent op112 sh112 (mc112.call2 (ms:=[]) Tryz.func112 (by kernel_rfl))
def mc113:Got (Tryz.f113.body.map (compile [0,1,2,6,17] Tryz.prog 21)):=.of (y:=PQ.made [0,1,2,6,17] pq 21 [] [] Tryz.f113.body) (by conv=>lhs; cbv) (by kernel_rfl)
def op113:GotO mc113.m:=⟨_,by conv=>lhs; cbv⟩
def sh113:GotS op113.m':=⟨_,by conv=>lhs; simp (config:={ maxSteps:=10000000 }) only [op113,toS,toO,zMI,zOp,binS]⟩
def en113:Ent Tryz.prog:=mc113.ent op113 sh113 (mc113.call2 (ms:=[.t 6]) Tryz.func113 (by kernel_rfl))
def mc115:Got (Tryz.f115.body.map (compile [0,1,4,5,6,7,8,9,10,11,15,24,51,62,75] Tryz.prog 87)):=.of (y:=PQ.made [0,1,4,5,6,7,8,9,10,11,15,24,51,62,75] pq 87 [] [] Tryz.f115.body) (by conv=>lhs; cbv) (by kernel_rfl)
def op115:GotO mc115.m:=⟨_,by conv=>lhs; cbv⟩
def sh115:GotS op115.m':=⟨_,by conv=>lhs; simp (config:={ maxSteps:=10000000 }) only [op115,toS,toO,zMI,zOp,binS]⟩
def en115:Ent Tryz.prog:=mc115.ent op115 sh115 (mc115.call2 (ms:=[.cell true 4 4,.t 5,.cell true 2 6]) Tryz.func115 (by kernel_rfl))
def mc116:Got (Tryz.f116.body.map (compile [0,2] Tryz.prog 13)):=.of (y:=PQ.made [0,2] pq 13 [(8,false)] [] Tryz.f116.body) (by conv=>lhs; cbv) (by kernel_rfl)
def op116:GotO mc116.m:=⟨_,by conv=>lhs; cbv⟩
def sh116:GotS op116.m':=⟨_,by conv=>lhs; simp (config:={ maxSteps:=10000000 }) only [op116,toS,toO,zMI,zOp,binS]⟩
def en116:Ent Tryz.prog:=mc116.ent op116 sh116 (mc116.call2 (ms:=[.cell true 4 2]) Tryz.func116 (by kernel_rfl))
def mc117:Got (Tryz.f117.body.map (compile [0,1,5,6,7,8,9,15] Tryz.prog 19)):=.of (y:=PQ.made [0,1,5,6,7,8,9,15] pq 19 [] [] Tryz.f117.body) (by conv=>lhs; cbv) (by kernel_rfl)
def op117:GotO mc117.m:=⟨_,by conv=>lhs; cbv⟩
def sh117:GotS op117.m':=⟨_,by conv=>lhs; simp (config:={ maxSteps:=10000000 }) only [op117,toS,toO,zMI,zOp,binS]⟩
def en117:Ent Tryz.prog:=mc117.ent op117 sh117 (mc117.call2 (ms:=[]) Tryz.func117 (by kernel_rfl))
def mc118:Got (Tryz.f118.body.map (compile [0,1,4] Tryz.prog 15)):=.of (y:=PQ.made [0,1,4] pq 15 [] [] Tryz.f118.body) (by conv=>lhs; cbv) (by kernel_rfl)
def op118:GotO mc118.m:=⟨_,by conv=>lhs; cbv⟩
def sh118:GotS op118.m':=⟨_,by conv=>lhs; simp (config:={ maxSteps:=10000000 }) only [op118,toS,toO,zMI,zOp,binS]⟩
def en118:Ent Tryz.prog:=mc118.ent op118 sh118 (mc118.call2 (ms:=[.t 4]) Tryz.func118 (by kernel_rfl))
end
end Go.Proofs.YtiehnbbbhcaacaaGreatDoor.Ev