/- Texts RevI RevJ RevK RevL RevM RevN RevO RevP, merged. -/
import Derived.Test.YtiehnbbbhcaacaaGreatDoorKAC
import Derived.KernelRfl
set_option linter.all false
set_option maxRecDepth 100000
set_option maxHeartbeats 4000000
namespace Go.Proofs.YtiehnbbbhcaacaaGreatDoor.Ev
open Go.AM
noncomputable section
def mc120:Got (Tryz.f120.body.map (compile [0,1,4,8] Tryz.prog 16)):=.of (y:=PQ.made [0,1,4,8] pq 16 [] [] Tryz.f120.body) (by conv=>lhs; cbv) (by kernel_rfl)
def op120:GotO mc120.m:=⟨_,by conv=>lhs; cbv⟩
def sh120:GotS op120.m':=⟨_,by conv=>lhs; simp (config:={ maxSteps:=10000000 }) only [op120,toS,toO,zMI,zOp,binS]⟩
def en120:Ent Tryz.prog:=mc120.ent op120 sh120 (mc120.call2 (ms:=[.t 4]) Tryz.func120 (by kernel_rfl))
def mc122:Got (Tryz.f122.body.map (compile [0,1,4,10,15] Tryz.prog 28)):=.of (y:=PQ.made [0,1,4,10,15] pq 28 [] [] Tryz.f122.body) (by conv=>lhs; cbv) (by kernel_rfl)
def op122:GotO mc122.m:=⟨_,by conv=>lhs; cbv⟩
def sh122:GotS op122.m':=⟨_,by conv=>lhs; simp (config:={ maxSteps:=10000000 }) only [op122,toS,toO,zMI,zOp,binS]⟩
def en122:Ent Tryz.prog:=mc122.ent op122 sh122 (mc122.call2 (ms:=[.t 4]) Tryz.func122 (by kernel_rfl))
def mc123:Got (Tryz.f123.body.map (compile [0,1,2] Tryz.prog 7)):=.of (y:=PQ.made [0,1,2] pq 7 [] [] Tryz.f123.body) (by conv=>lhs; cbv) (by kernel_rfl)
def op123:GotO mc123.m:=⟨_,by conv=>lhs; cbv⟩
def sh123:GotS op123.m':=⟨_,by conv=>lhs; simp (config:={ maxSteps:=10000000 }) only [op123,toS,toO,zMI,zOp,binS]⟩
def en123:Ent Tryz.prog:=mc123.ent op123 sh123 (mc123.call2 (ms:=[.cell true 7 2]) Tryz.func123 (by kernel_rfl))
def mc124:Got (Tryz.f124.body.map (compile [0,1,4,5,6,10,16,57] Tryz.prog 64)):=.of (y:=PQ.made [0,1,4,5,6,10,16,57] pq 64 [] [] Tryz.f124.body) (by conv=>lhs; cbv) (by kernel_rfl)
def op124:GotO mc124.m:=⟨_,by conv=>lhs; cbv⟩
def sh124:GotS op124.m':=⟨_,by conv=>lhs; simp (config:={ maxSteps:=10000000 }) only [op124,toS,toO,zMI,zOp,binS]⟩
def en124:Ent Tryz.prog:=mc124.ent op124 sh124 (mc124.call2 (ms:=[.cell true 5 4]) Tryz.func124 (by kernel_rfl))
def mc125:Got (Tryz.f125.body.map (compile [0,1,2,3,5,6,7,8,9,10,12,18,27,28,29,30,35] Tryz.prog 46)):=.of (y:=PQ.made [0,1,2,3,5,6,7,8,9,10,12,18,27,28,29,30,35] pq 46 [(7,false)] [] Tryz.f125.body) (by conv=>lhs; cbv) (by kernel_rfl)
def op125:GotO mc125.m:=⟨_,by conv=>lhs; cbv⟩
def sh125:GotS op125.m':=⟨_,by conv=>lhs; simp (config:={ maxSteps:=10000000 }) only [op125,toS,toO,zMI,zOp,binS]⟩
def en125:Ent Tryz.prog:=mc125.ent op125 sh125 (mc125.call2 (ms:=[.cell true 7 6]) Tryz.func125 (by kernel_rfl))
def mc129:Got (Tryz.f129.body.map (compile [0,2,3,5,6,8,9,10,11,12,20,25,26,27,28] Tryz.prog 36)):=.of (y:=PQ.made [0,2,3,5,6,8,9,10,11,12,20,25,26,27,28] pq 36 [] [] Tryz.f129.body) (by conv=>lhs; cbv) (by kernel_rfl)
def op129:GotO mc129.m:=⟨_,by conv=>lhs; cbv⟩
def sh129:GotS op129.m':=⟨_,by conv=>lhs; simp (config:={ maxSteps:=10000000 }) only [op129,toS,toO,zMI,zOp,binS]⟩
def en129:Ent Tryz.prog:=mc129.ent op129 sh129 (mc129.call2 (ms:=[.t 2]) Tryz.func129 (by kernel_rfl))
def mc130:Got (Tryz.f130.body.map (compile [0,1,2,4,5,26] Tryz.prog 35)):=.of (y:=PQ.made [0,1,2,4,5,26] pq 35 [] [] Tryz.f130.body) (by conv=>lhs; cbv) (by kernel_rfl)
def op130:GotO mc130.m:=⟨_,by conv=>lhs; cbv⟩
def sh130:GotS op130.m':=⟨_,by conv=>lhs; simp (config:={ maxSteps:=10000000 }) only [op130,toS,toO,zMI,zOp,binS]⟩
def en130:Ent Tryz.prog:=mc130.ent op130 sh130 (mc130.call2 (ms:=[.t 4]) Tryz.func130 (by kernel_rfl))
def mc131:Got (Tryz.f131.body.map (compile [0,1,2,4,6,8,10,11,22,27,38,39,40,41] Tryz.prog 50)):=.of (y:=PQ.made [0,1,2,4,6,8,10,11,22,27,38,39,40,41] pq 50 [] [] Tryz.f131.body) (by conv=>lhs; cbv) (by kernel_rfl)
def op131:GotO mc131.m:=⟨_,by conv=>lhs; cbv⟩
def sh131:GotS op131.m':=⟨_,by conv=>lhs; simp (config:={ maxSteps:=10000000 }) only [op131,toS,toO,zMI,zOp,binS]⟩
def en131:Ent Tryz.prog:=mc131.ent op131 sh131 (mc131.call2 (ms:=[.t 6]) Tryz.func131 (by kernel_rfl))
def mc132:Got (Tryz.f132.body.map (compile [0,2,3,5,6,8,9,10,11,12,20,25,26,27,28] Tryz.prog 36)):=.of (y:=PQ.made [0,2,3,5,6,8,9,10,11,12,20,25,26,27,28] pq 36 [] [] Tryz.f132.body) (by conv=>lhs; cbv) (by kernel_rfl)
def op132:GotO mc132.m:=⟨_,by conv=>lhs; cbv⟩
def sh132:GotS op132.m':=⟨_,by conv=>lhs; simp (config:={ maxSteps:=10000000 }) only [op132,toS,toO,zMI,zOp,binS]⟩
def en132:Ent Tryz.prog:=mc132.ent op132 sh132 (mc132.call2 (ms:=[.t 2]) Tryz.func132 (by kernel_rfl))
def mc133:Got (Tryz.f133.body.map (compile [0,1,4,5,10,14,42,52,105,106,107,124] Tryz.prog 126)):=.of (y:=PQ.made [0,1,4,5,10,14,42,52,105,106,107,124] pq 126 [(20,false),(42,false),(14,false)] [] Tryz.f133.body) (by conv=>lhs; cbv) (by kernel_rfl)
def op133:GotO mc133.m:=⟨_,by conv=>lhs; cbv⟩
def sh133:GotS op133.m':=⟨_,by conv=>lhs; simp (config:={ maxSteps:=10000000 }) only [op133,toS,toO,zMI,zOp,binS]⟩
def en133:Ent Tryz.prog:=mc133.ent op133 sh133 (mc133.call2 (ms:=[.t 4]) Tryz.func133 (by kernel_rfl))
def mc134:Got (Tryz.f134.body.map (compile [0,1,4,6,12,22,23,24,25,30] Tryz.prog 34)):=.of (y:=PQ.made [0,1,4,6,12,22,23,24,25,30] pq 34 [] [] Tryz.f134.body) (by conv=>lhs; cbv) (by kernel_rfl)
def op134:GotO mc134.m:=⟨_,by conv=>lhs; cbv⟩
def sh134:GotS op134.m':=⟨_,by conv=>lhs; simp (config:={ maxSteps:=10000000 }) only [op134,toS,toO,zMI,zOp,binS]⟩
def en134:Ent Tryz.prog:=mc134.ent op134 sh134 (mc134.call2 (ms:=[.t 4]) Tryz.func134 (by kernel_rfl))
def mc138:Got (Tryz.f138.body.map (compile [0,1,3,4,5,6,7,9,10,11,12,13,14,15,23,24,32,40,44,48,52,57,58,59,60,92,110] Tryz.prog 136)):=.of (y:=PQ.made [0,1,3,4,5,6,7,9,10,11,12,13,14,15,23,24,32,40,44,48,52,57,58,59,60,92,110] pq 136 [(11,false),(9,false)] [] Tryz.f138.body) (by conv=>lhs; cbv) (by kernel_rfl)
def op138:GotO mc138.m:=⟨_,by conv=>lhs; cbv⟩
def sh138:GotS op138.m':=⟨_,by conv=>lhs; simp (config:={ maxSteps:=10000000 }) only [op138,toS,toO,zMI,zOp,binS]⟩
def en138:Ent Tryz.prog:=mc138.ent op138 sh138 (mc138.call2 (ms:=[.cell true 10 4,.t 5]) Tryz.func138 (by kernel_rfl))
end
end Go.Proofs.YtiehnbbbhcaacaaGreatDoor.Ev
set_option linter.all false
set_option maxRecDepth 100000
set_option maxHeartbeats 4000000
namespace Go.Proofs.YtiehnbbbhcaacaaGreatDoor.Ev
open Go.AM
noncomputable section
def mc141:Got (Tryz.f141.body.map (compile [0,2] Tryz.prog 5)):=.of (y:=PQ.made [0,2] pq 5 [] [] Tryz.f141.body) (by conv=>lhs; cbv) (by kernel_rfl)
def op141:GotO mc141.m:=⟨_,by conv=>lhs; cbv⟩
def sh141:GotS op141.m':=⟨_,by conv=>lhs; simp (config:={ maxSteps:=10000000 }) only [op141,toS,toO,zMI,zOp,binS]⟩
def en141:Ent Tryz.prog:=mc141.ent op141 sh141 (mc141.call2 (ms:=[.t 2]) Tryz.func141 (by kernel_rfl))
def mc142:Got (Tryz.f142.body.map (compile [0,1,2,3,4,5,6,21,22,27,32,37,39,44,53,59,68,74,83,95,101,107,116] Tryz.prog 150)):=.of (y:=PQ.made [0,1,2,3,4,5,6,21,22,27,32,37,39,44,53,59,68,74,83,95,101,107,116] pq 150 [(16,false),(7,false),(7,false),(7,false),(10,false),(7,false),(6,false)] [] Tryz.f142.body) (by conv=>lhs; cbv) (by kernel_rfl)
def op142:GotO mc142.m:=⟨_,by conv=>lhs; cbv⟩
def sh142:GotS op142.m':=⟨_,by conv=>lhs; simp (config:={ maxSteps:=10000000 }) only [op142,toS,toO,zMI,zOp,binS]⟩
def en142:Ent Tryz.prog:=mc142.ent op142 sh142 (mc142.call2 (ms:=[.t 2]) Tryz.func142 (by kernel_rfl))
def mc143:Got (Tryz.f143.body.map (compile [0,1,2,3,4,5,17,18,21,26,31,36,42] Tryz.prog 69)):=.of (y:=PQ.made [0,1,2,3,4,5,17,18,21,26,31,36,42] pq 69 [(12,false),(7,false)] [] Tryz.f143.body) (by conv=>lhs; cbv) (by kernel_rfl)
def op143:GotO mc143.m:=⟨_,by conv=>lhs; cbv⟩
def sh143:GotS op143.m':=⟨_,by conv=>lhs; simp (config:={ maxSteps:=10000000 }) only [op143,toS,toO,zMI,zOp,binS]⟩
def en143:Ent Tryz.prog:=mc143.ent op143 sh143 (mc143.call2 (ms:=[.t 2]) Tryz.func143 (by kernel_rfl))
def mc151:Got (Tryz.f151.body.map (compile [0,2] Tryz.prog 9)):=.of (y:=PQ.made [0,2] pq 9 [] [] Tryz.f151.body) (by conv=>lhs; cbv) (by kernel_rfl)
def op151:GotO mc151.m:=⟨_,by conv=>lhs; cbv⟩
def sh151:GotS op151.m':=⟨_,by conv=>lhs; simp (config:={ maxSteps:=10000000 }) only [op151,toS,toO,zMI,zOp,binS]⟩
def en151:Ent Tryz.prog:=mc151.ent op151 sh151 (mc151.call2 (ms:=[.t 2]) Tryz.func151 (by kernel_rfl))
def mc153:Got (Tryz.f153.body.map (compile [0,1,2,3,5,7,8,9,10] Tryz.prog 19)):=.of (y:=PQ.made [0,1,2,3,5,7,8,9,10] pq 19 [] [] Tryz.f153.body) (by conv=>lhs; cbv) (by kernel_rfl)
def op153:GotO mc153.m:=⟨_,by conv=>lhs; cbv⟩
def sh153:GotS op153.m':=⟨_,by conv=>lhs; simp (config:={ maxSteps:=10000000 }) only [op153,toS,toO,zMI,zOp,binS]⟩
def en153:Ent Tryz.prog:=mc153.ent op153 sh153 (mc153.call2 (ms:=[.t 2]) Tryz.func153 (by kernel_rfl))
def mc154:Got (Tryz.f154.body.map (compile [0,1,2,3,4,5] Tryz.prog 25)):=.of (y:=PQ.made [0,1,2,3,4,5] pq 25 [] [] Tryz.f154.body) (by conv=>lhs; cbv) (by kernel_rfl)
def op154:GotO mc154.m:=⟨_,by conv=>lhs; cbv⟩
def sh154:GotS op154.m':=⟨_,by conv=>lhs; simp (config:={ maxSteps:=10000000 }) only [op154,toS,toO,zMI,zOp,binS]⟩
def en154:Ent Tryz.prog:=mc154.ent op154 sh154 (mc154.call2 (ms:=[.t 2]) Tryz.func154 (by kernel_rfl))
def mc158:Got (Tryz.f158.body.map (compile [0,1,2,3,8,9,10,11,13,14,15,16,17,38,44,45,46,47,60,89] Tryz.prog 107)):=.of (y:=PQ.made [0,1,2,3,8,9,10,11,13,14,15,16,17,38,44,45,46,47,60,89] pq 107 [(14,false),(12,false)] [] Tryz.f158.body) (by conv=>lhs; cbv) (by kernel_rfl)
def op158:GotO mc158.m:=⟨_,by conv=>lhs; cbv⟩
def sh158:GotS op158.m':=⟨_,by conv=>lhs; simp (config:={ maxSteps:=10000000 }) only [op158,toS,toO,zMI,zOp,binS]⟩
def en158:Ent Tryz.prog:=mc158.ent op158 sh158 (mc158.call2 (ms:=[.cell true 4 8,.t 9]) Tryz.func158 (by kernel_rfl))
def mc159:Got (Tryz.f159.body.map (compile [0,1,2,3,8,9,10,11,12,13,14,15,16,26,33,34,38,45,81,99,105,124] Tryz.prog 143)):=.of (y:=PQ.made [0,1,2,3,8,9,10,11,12,13,14,15,16,26,33,34,38,45,81,99,105,124] pq 143 [(16,false),(22,false),(11,false),(18,false),(11,false)] [] Tryz.f159.body) (by conv=>lhs; cbv) (by kernel_rfl)
def op159:GotO mc159.m:=⟨_,by conv=>lhs; cbv⟩
def sh159:GotS op159.m':=⟨_,by conv=>lhs; simp (config:={ maxSteps:=10000000 }) only [op159,toS,toO,zMI,zOp,binS]⟩
def en159:Ent Tryz.prog:=mc159.ent op159 sh159 (mc159.call2 (ms:=[.cell true 4 8,.t 9]) Tryz.func159 (by kernel_rfl))
def mc160:Got (Tryz.f160.body.map (compile [0,2,3] Tryz.prog 6)):=.of (y:=PQ.made [0,2,3] pq 6 [] [] Tryz.f160.body) (by conv=>lhs; cbv) (by kernel_rfl)
def op160:GotO mc160.m:=⟨_,by conv=>lhs; cbv⟩
def sh160:GotS op160.m':=⟨_,by conv=>lhs; simp (config:={ maxSteps:=10000000 }) only [op160,toS,toO,zMI,zOp,binS]⟩
def en160:Ent Tryz.prog:=mc160.ent op160 sh160 (mc160.call2 (ms:=[.t 2]) Tryz.func160 (by kernel_rfl))
def mc161:Got (Tryz.f161.body.map (compile [0,1,2,3,4,6,8,9,17,22] Tryz.prog 32)):=.of (y:=PQ.made [0,1,2,3,4,6,8,9,17,22] pq 32 [(4,false)] [] Tryz.f161.body) (by conv=>lhs; cbv) (by kernel_rfl)
def op161:GotO mc161.m:=⟨_,by conv=>lhs; cbv⟩
def sh161:GotS op161.m':=⟨_,by conv=>lhs; simp (config:={ maxSteps:=10000000 }) only [op161,toS,toO,zMI,zOp,binS]⟩
def en161:Ent Tryz.prog:=mc161.ent op161 sh161 (mc161.call2 (ms:=[.cell true 11 6]) Tryz.func161 (by kernel_rfl))
def mc162:Got (Tryz.f162.body.map (compile [0,1,2,3,4,6] Tryz.prog 19)):=.of (y:=PQ.made [0,1,2,3,4,6] pq 19 [(9,false)] [] Tryz.f162.body) (by conv=>lhs; cbv) (by kernel_rfl)
def op162:GotO mc162.m:=⟨_,by conv=>lhs; cbv⟩
def sh162:GotS op162.m':=⟨_,by conv=>lhs; simp (config:={ maxSteps:=10000000 }) only [op162,toS,toO,zMI,zOp,binS]⟩
def en162:Ent Tryz.prog:=mc162.ent op162 sh162 (mc162.call2 (ms:=[.cell true 11 6]) Tryz.func162 (by kernel_rfl))
def mc163:Got (Tryz.f163.body.map (compile [0,2,3,5,6,7,8,9] Tryz.prog 19)):=.of (y:=PQ.made [0,2,3,5,6,7,8,9] pq 19 [] [] Tryz.f163.body) (by conv=>lhs; cbv) (by kernel_rfl)
def op163:GotO mc163.m:=⟨_,by conv=>lhs; cbv⟩
def sh163:GotS op163.m':=⟨_,by conv=>lhs; simp (config:={ maxSteps:=10000000 }) only [op163,toS,toO,zMI,zOp,binS]⟩
def en163:Ent Tryz.prog:=mc163.ent op163 sh163 (mc163.call2 (ms:=[.t 2]) Tryz.func163 (by kernel_rfl))
end
end Go.Proofs.YtiehnbbbhcaacaaGreatDoor.Ev
set_option linter.all false
set_option maxRecDepth 100000
set_option maxHeartbeats 4000000
namespace Go.Proofs.YtiehnbbbhcaacaaGreatDoor.Ev
open Go.AM
noncomputable section
def mc167:Got (Tryz.f167.body.map (compile [0,1,2,3,4,5,7,8] Tryz.prog 20)):=.of (y:=PQ.made [0,1,2,3,4,5,7,8] pq 20 [(10,false)] [] Tryz.f167.body) (by conv=>lhs; cbv) (by kernel_rfl)
def op167:GotO mc167.m:=⟨_,by conv=>lhs; cbv⟩
def sh167:GotS op167.m':=⟨_,by conv=>lhs; simp (config:={ maxSteps:=10000000 }) only [op167,toS,toO,zMI,zOp,binS]⟩
def en167:Ent Tryz.prog:=mc167.ent op167 sh167 (mc167.call2 (ms:=[.cell true 11 8]) Tryz.func167 (by kernel_rfl))
def mc168:Got (Tryz.f168.body.map (compile [0,1,2,3,4,7,8] Tryz.prog 17)):=.of (y:=PQ.made [0,1,2,3,4,7,8] pq 17 [] [] Tryz.f168.body) (by conv=>lhs; cbv) (by kernel_rfl)
def op168:GotO mc168.m:=⟨_,by conv=>lhs; cbv⟩
def sh168:GotS op168.m':=⟨_,by conv=>lhs; simp (config:={ maxSteps:=10000000 }) only [op168,toS,toO,zMI,zOp,binS]⟩
def en168:Ent Tryz.prog:=mc168.ent op168 sh168 (mc168.call2 (ms:=[.cell true 11 8]) Tryz.func168 (by kernel_rfl))
def mc169:Got (Tryz.f169.body.map (compile [0,1,2,3,4,6,10,11,12,13,14,15,18,30,52,55,75,76] Tryz.prog 108)):=.of (y:=PQ.made [0,1,2,3,4,6,10,11,12,13,14,15,18,30,52,55,75,76] pq 108 [(18,false),(6,false)] [] Tryz.f169.body) (by conv=>lhs; cbv) (by kernel_rfl)
def op169:GotO mc169.m:=⟨_,by conv=>lhs; cbv⟩
def sh169:GotS op169.m':=⟨_,by conv=>lhs; simp (config:={ maxSteps:=10000000 }) only [op169,toS,toO,zMI,zOp,binS]⟩
def en169:Ent Tryz.prog:=mc169.ent op169 sh169 (mc169.call2 (ms:=[.t 10]) Tryz.func169 (by kernel_rfl))
def mc170:Got (Tryz.f170.body.map (compile [0,1,2,3,5,8,9,11,13,16,17,22,27,34,48] Tryz.prog 78)):=.of (y:=PQ.made [0,1,2,3,5,8,9,11,13,16,17,22,27,34,48] pq 78 [(13,false),(12,false),(13,false)] [] Tryz.f170.body) (by conv=>lhs; cbv) (by kernel_rfl)
def op170:GotO mc170.m:=⟨_,by conv=>lhs; cbv⟩
def sh170:GotS op170.m':=⟨_,by conv=>lhs; simp (config:={ maxSteps:=10000000 }) only [op170,toS,toO,zMI,zOp,binS]⟩
def en170:Ent Tryz.prog:=mc170.ent op170 sh170 (mc170.call2 (ms:=[.cell true 6 8]) Tryz.func170 (by kernel_rfl))
def mc171:Got (Tryz.f171.body.map (compile [0,1,2,3,4,6,10,11,12,13,15,16,17,18,19,20,21,22,23,24,25,62,83,84,85,91,92,93,94,139,162] Tryz.prog 198)):=.of (y:=PQ.made [0,1,2,3,4,6,10,11,12,13,15,16,17,18,19,20,21,22,23,24,25,62,83,84,85,91,92,93,94,139,162] pq 198 [(9,false),(9,false),(8,false),(11,false),(12,false),(14,false),(6,false)] [] Tryz.f171.body) (by conv=>lhs; cbv) (by kernel_rfl)
def op171:GotO mc171.m:=⟨_,by conv=>lhs; cbv⟩
def sh171:GotS op171.m':=⟨_,by conv=>lhs; simp (config:={ maxSteps:=10000000 }) only [op171,toS,toO,zMI,zOp,binS]⟩
def en171:Ent Tryz.prog:=mc171.ent op171 sh171 (mc171.call2 (ms:=[.cell true 11 10]) Tryz.func171 (by kernel_rfl))
def mc172:Got (Tryz.f172.body.map (compile [0,1,2,3,5,6,11] Tryz.prog 21)):=.of (y:=PQ.made [0,1,2,3,5,6,11] pq 21 [(9,false)] [] Tryz.f172.body) (by conv=>lhs; cbv) (by kernel_rfl)
def op172:GotO mc172.m:=⟨_,by conv=>lhs; cbv⟩
def sh172:GotS op172.m':=⟨_,by conv=>lhs; simp (config:={ maxSteps:=10000000 }) only [op172,toS,toO,zMI,zOp,binS]⟩
def en172:Ent Tryz.prog:=mc172.ent op172 sh172 (mc172.call2 (ms:=[.t 2,.t 3]) Tryz.func172 (by kernel_rfl))
def mc173:Got (Tryz.f173.body.map (compile [0,2,3,5,6,7,8,9] Tryz.prog 18)):=.of (y:=PQ.made [0,2,3,5,6,7,8,9] pq 18 [] [] Tryz.f173.body) (by conv=>lhs; cbv) (by kernel_rfl)
def op173:GotO mc173.m:=⟨_,by conv=>lhs; cbv⟩
def sh173:GotS op173.m':=⟨_,by conv=>lhs; simp (config:={ maxSteps:=10000000 }) only [op173,toS,toO,zMI,zOp,binS]⟩
def en173:Ent Tryz.prog:=mc173.ent op173 sh173 (mc173.call2 (ms:=[.t 2]) Tryz.func173 (by kernel_rfl))
def mc174:Got (Tryz.f174.body.map (compile [0,2,3,5,6,8,9,10,11,12,20,25,26,27,28] Tryz.prog 36)):=.of (y:=PQ.made [0,2,3,5,6,8,9,10,11,12,20,25,26,27,28] pq 36 [] [] Tryz.f174.body) (by conv=>lhs; cbv) (by kernel_rfl)
def op174:GotO mc174.m:=⟨_,by conv=>lhs; cbv⟩
def sh174:GotS op174.m':=⟨_,by conv=>lhs; simp (config:={ maxSteps:=10000000 }) only [op174,toS,toO,zMI,zOp,binS]⟩
def en174:Ent Tryz.prog:=mc174.ent op174 sh174 (mc174.call2 (ms:=[.t 2]) Tryz.func174 (by kernel_rfl))
def mc175:Got (Tryz.f175.body.map (compile [0,2,3,5,6,8,9,10,11,12,20,25,26,27,28] Tryz.prog 36)):=.of (y:=PQ.made [0,2,3,5,6,8,9,10,11,12,20,25,26,27,28] pq 36 [] [] Tryz.f175.body) (by conv=>lhs; cbv) (by kernel_rfl)
def op175:GotO mc175.m:=⟨_,by conv=>lhs; cbv⟩
def sh175:GotS op175.m':=⟨_,by conv=>lhs; simp (config:={ maxSteps:=10000000 }) only [op175,toS,toO,zMI,zOp,binS]⟩
def en175:Ent Tryz.prog:=mc175.ent op175 sh175 (mc175.call2 (ms:=[.t 2]) Tryz.func175 (by kernel_rfl))
def mc176:Got (Tryz.f176.body.map (compile [0,1,2,3,4,9,17,18,21,22,27,28,33] Tryz.prog 50)):=.of (y:=PQ.made [0,1,2,3,4,9,17,18,21,22,27,28,33] pq 50 [] [] Tryz.f176.body) (by conv=>lhs; cbv) (by kernel_rfl)
def op176:GotO mc176.m:=⟨_,by conv=>lhs; cbv⟩
def sh176:GotS op176.m':=⟨_,by conv=>lhs; simp (config:={ maxSteps:=10000000 }) only [op176,toS,toO,zMI,zOp,binS]⟩
def en176:Ent Tryz.prog:=mc176.ent op176 sh176 (mc176.call2 (ms:=[.t 2]) Tryz.func176 (by kernel_rfl))
def mc177:Got (Tryz.f177.body.map (compile [0,1,4] Tryz.prog 9)):=.of (y:=PQ.made [0,1,4] pq 9 [] [] Tryz.f177.body) (by conv=>lhs; cbv) (by kernel_rfl)
def op177:GotO mc177.m:=⟨_,by conv=>lhs; cbv⟩
def sh177:GotS op177.m':=⟨_,by conv=>lhs; simp (config:={ maxSteps:=10000000 }) only [op177,toS,toO,zMI,zOp,binS]⟩
def en177:Ent Tryz.prog:=mc177.ent op177 sh177 (mc177.call2 (ms:=[.t 4]) Tryz.func177 (by kernel_rfl))
def mc178:Got (Tryz.f178.body.map (compile [0,1,2,3] Tryz.prog 15)):=.of (y:=PQ.made [0,1,2,3] pq 15 [] [] Tryz.f178.body) (by conv=>lhs; cbv) (by kernel_rfl)
def op178:GotO mc178.m:=⟨_,by conv=>lhs; cbv⟩
def sh178:GotS op178.m':=⟨_,by conv=>lhs; simp (config:={ maxSteps:=10000000 }) only [op178,toS,toO,zMI,zOp,binS]⟩
def en178:Ent Tryz.prog:=mc178.ent op178 sh178 (mc178.call2 (ms:=[.t 3]) Tryz.func178 (by kernel_rfl))
end
end Go.Proofs.YtiehnbbbhcaacaaGreatDoor.Ev
set_option linter.all false
set_option maxRecDepth 100000
set_option maxHeartbeats 4000000
namespace Go.Proofs.YtiehnbbbhcaacaaGreatDoor.Ev
open Go.AM
noncomputable section
def mc179:Got (Tryz.f179.body.map (compile [0,1,2,3,6,7,8,14,26] Tryz.prog 33)):=.of (y:=PQ.made [0,1,2,3,6,7,8,14,26] pq 33 [] [] Tryz.f179.body) (by conv=>lhs; cbv) (by kernel_rfl)
def op179:GotO mc179.m:=⟨_,by conv=>lhs; cbv⟩
def sh179:GotS op179.m':=⟨_,by conv=>lhs; simp (config:={ maxSteps:=10000000 }) only [op179,toS,toO,zMI,zOp,binS]⟩
def en179:Ent Tryz.prog:=mc179.ent op179 sh179 (mc179.call2 (ms:=[.t 6]) Tryz.func179 (by kernel_rfl))
def mc181:Got (Tryz.f181.body.map (compile [0,1,2,3,4,5,6,9,21,48,61,62,68,74,80,89] Tryz.prog 99)):=.of (y:=PQ.made [0,1,2,3,4,5,6,9,21,48,61,62,68,74,80,89] pq 99 [(11,false)] [] Tryz.f181.body) (by conv=>lhs; cbv) (by kernel_rfl)
def op181:GotO mc181.m:=⟨_,by conv=>lhs; cbv⟩
def sh181:GotS op181.m':=⟨_,by conv=>lhs; simp (config:={ maxSteps:=10000000 }) only [op181,toS,toO,zMI,zOp,binS]⟩
def en181:Ent Tryz.prog:=mc181.ent op181 sh181 (mc181.call2 (ms:=[.cell true 4 2,.t 3]) Tryz.func181 (by kernel_rfl))
def mc182:Got (Tryz.f182.body.map (compile [0,2,4] Tryz.prog 8)):=.of (y:=PQ.made [0,2,4] pq 8 [] [] Tryz.f182.body) (by conv=>lhs; cbv) (by kernel_rfl)
def op182:GotO mc182.m:=⟨_,by conv=>lhs; cbv⟩
def sh182:GotS op182.m':=⟨_,by conv=>lhs; simp (config:={ maxSteps:=10000000 }) only [op182,toS,toO,zMI,zOp,binS]⟩
def en182:Ent Tryz.prog:=mc182.ent op182 sh182 (mc182.call2 (ms:=[.t 2]) Tryz.func182 (by kernel_rfl))
def mc183:Got (Tryz.f183.body.map (compile [0,2] Tryz.prog 5)):=.of (y:=PQ.made [0,2] pq 5 [] [] Tryz.f183.body) (by conv=>lhs; cbv) (by kernel_rfl)
def op183:GotO mc183.m:=⟨_,by conv=>lhs; cbv⟩
def sh183:GotS op183.m':=⟨_,by conv=>lhs; simp (config:={ maxSteps:=10000000 }) only [op183,toS,toO,zMI,zOp,binS]⟩
def en183:Ent Tryz.prog:=mc183.ent op183 sh183 (mc183.call2 (ms:=[.cell true 4 2]) Tryz.func183 (by kernel_rfl))
def mc184:Got (Tryz.f184.body.map (compile [0,1,2,4,5,12] Tryz.prog 18)):=.of (y:=PQ.made [0,1,2,4,5,12] pq 18 [] [] Tryz.f184.body) (by conv=>lhs; cbv) (by kernel_rfl)
def op184:GotO mc184.m:=⟨_,by conv=>lhs; cbv⟩
def sh184:GotS op184.m':=⟨_,by conv=>lhs; simp (config:={ maxSteps:=10000000 }) only [op184,toS,toO,zMI,zOp,binS]⟩
def en184:Ent Tryz.prog:=mc184.ent op184 sh184 (mc184.call2 (ms:=[.t 2]) Tryz.func184 (by kernel_rfl))
def mc185:Got (Tryz.f185.body.map (compile [0,1,2,3,4] Tryz.prog 15)):=.of (y:=PQ.made [0,1,2,3,4] pq 15 [] [] Tryz.f185.body) (by conv=>lhs; cbv) (by kernel_rfl)
def op185:GotO mc185.m:=⟨_,by conv=>lhs; cbv⟩
def sh185:GotS op185.m':=⟨_,by conv=>lhs; simp (config:={ maxSteps:=10000000 }) only [op185,toS,toO,zMI,zOp,binS]⟩
def en185:Ent Tryz.prog:=mc185.ent op185 sh185 (mc185.call2 (ms:=[.t 4]) Tryz.func185 (by kernel_rfl))
def mc186:Got (Tryz.f186.body.map (compile [0,1,2,4,5,6,7,8,10,11,12,13,25,37,38,39,40] Tryz.prog 53)):=.of (y:=PQ.made [0,1,2,4,5,6,7,8,10,11,12,13,25,37,38,39,40] pq 53 [(6,false)] [] Tryz.f186.body) (by conv=>lhs; cbv) (by kernel_rfl)
def op186:GotO mc186.m:=⟨_,by conv=>lhs; cbv⟩
def sh186:GotS op186.m':=⟨_,by conv=>lhs; simp (config:={ maxSteps:=10000000 }) only [op186,toS,toO,zMI,zOp,binS]⟩
def en186:Ent Tryz.prog:=mc186.ent op186 sh186 (mc186.call2 (ms:=[.cell true 11 4]) Tryz.func186 (by kernel_rfl))
def mc187:Got (Tryz.f187.body.map (compile [0,1,2,3,5,8] Tryz.prog 23)):=.of (y:=PQ.made [0,1,2,3,5,8] pq 23 [] [] Tryz.f187.body) (by conv=>lhs; cbv) (by kernel_rfl)
def op187:GotO mc187.m:=⟨_,by conv=>lhs; cbv⟩
def sh187:GotS op187.m':=⟨_,by conv=>lhs; simp (config:={ maxSteps:=10000000 }) only [op187,toS,toO,zMI,zOp,binS]⟩
def en187:Ent Tryz.prog:=mc187.ent op187 sh187 (mc187.call2 (ms:=[.t 8]) Tryz.func187 (by kernel_rfl))
def mc188:Got (Tryz.f188.body.map (compile [0,1,4] Tryz.prog 9)):=.of (y:=PQ.made [0,1,4] pq 9 [] [] Tryz.f188.body) (by conv=>lhs; cbv) (by kernel_rfl)
def op188:GotO mc188.m:=⟨_,by conv=>lhs; cbv⟩
def sh188:GotS op188.m':=⟨_,by conv=>lhs; simp (config:={ maxSteps:=10000000 }) only [op188,toS,toO,zMI,zOp,binS]⟩
def en188:Ent Tryz.prog:=mc188.ent op188 sh188 (mc188.call2 (ms:=[.t 4]) Tryz.func188 (by kernel_rfl))
def mc189:Got (Tryz.f189.body.map (compile [0,1,2,3,4] Tryz.prog 14)):=.of (y:=PQ.made [0,1,2,3,4] pq 14 [(7,false)] [] Tryz.f189.body) (by conv=>lhs; cbv) (by kernel_rfl)
def op189:GotO mc189.m:=⟨_,by conv=>lhs; cbv⟩
def sh189:GotS op189.m':=⟨_,by conv=>lhs; simp (config:={ maxSteps:=10000000 }) only [op189,toS,toO,zMI,zOp,binS]⟩
def en189:Ent Tryz.prog:=mc189.ent op189 sh189 (mc189.call2 (ms:=[.t 4]) Tryz.func189 (by kernel_rfl))
def mc190:Got (Tryz.f190.body.map (compile [0,1,2,4,6] Tryz.prog 29)):=.of (y:=PQ.made [0,1,2,4,6] pq 29 [] [] Tryz.f190.body) (by conv=>lhs; cbv) (by kernel_rfl)
def op190:GotO mc190.m:=⟨_,by conv=>lhs; cbv⟩
def sh190:GotS op190.m':=⟨_,by conv=>lhs; simp (config:={ maxSteps:=10000000 }) only [op190,toS,toO,zMI,zOp,binS]⟩
def en190:Ent Tryz.prog:=mc190.ent op190 sh190 (mc190.call2 (ms:=[.t 6]) Tryz.func190 (by kernel_rfl))
def mc191:Got (Tryz.f191.body.map (compile [0,1,2,3,5,7,8,9,10,25] Tryz.prog 50)):=.of (y:=PQ.made [0,1,2,3,5,7,8,9,10,25] pq 50 [(17,false)] [] Tryz.f191.body) (by conv=>lhs; cbv) (by kernel_rfl)
def op191:GotO mc191.m:=⟨_,by conv=>lhs; cbv⟩
def sh191:GotS op191.m':=⟨_,by conv=>lhs; simp (config:={ maxSteps:=10000000 }) only [op191,toS,toO,zMI,zOp,binS]⟩
def en191:Ent Tryz.prog:=mc191.ent op191 sh191 (mc191.call2 (ms:=[.t 2]) Tryz.func191 (by kernel_rfl))
end
end Go.Proofs.YtiehnbbbhcaacaaGreatDoor.Ev
set_option linter.all false
set_option maxRecDepth 100000
set_option maxHeartbeats 4000000
namespace Go.Proofs.YtiehnbbbhcaacaaGreatDoor.Ev
open Go.AM
noncomputable section
def mc192:Got (Tryz.f192.body.map (compile [0,1,2,4,5,6,14,20,21,22] Tryz.prog 33)):=.of (y:=PQ.made [0,1,2,4,5,6,14,20,21,22] pq 33 [] [] Tryz.f192.body) (by conv=>lhs; cbv) (by kernel_rfl)
def op192:GotO mc192.m:=⟨_,by conv=>lhs; cbv⟩
def sh192:GotS op192.m':=⟨_,by conv=>lhs; simp (config:={ maxSteps:=10000000 }) only [op192,toS,toO,zMI,zOp,binS]⟩
def en192:Ent Tryz.prog:=mc192.ent op192 sh192 (mc192.call2 (ms:=[.t 4]) Tryz.func192 (by kernel_rfl))
def mc193:Got (Tryz.f193.body.map (compile [0,1,4,5,7,8,9,16] Tryz.prog 19)):=.of (y:=PQ.made [0,1,4,5,7,8,9,16] pq 19 [] [] Tryz.f193.body) (by conv=>lhs; cbv) (by kernel_rfl)
def op193:GotO mc193.m:=⟨_,by conv=>lhs; cbv⟩
def sh193:GotS op193.m':=⟨_,by conv=>lhs; simp (config:={ maxSteps:=10000000 }) only [op193,toS,toO,zMI,zOp,binS]⟩
def en193:Ent Tryz.prog:=mc193.ent op193 sh193 (mc193.call2 (ms:=[.t 4]) Tryz.func193 (by kernel_rfl))
def mc194:Got (Tryz.f194.body.map (compile [0,1,2,8] Tryz.prog 14)):=.of (y:=PQ.made [0,1,2,8] pq 14 [] [] Tryz.f194.body) (by conv=>lhs; cbv) (by kernel_rfl)
def op194:GotO mc194.m:=⟨_,by conv=>lhs; cbv⟩
def sh194:GotS op194.m':=⟨_,by conv=>lhs; simp (config:={ maxSteps:=10000000 }) only [op194,toS,toO,zMI,zOp,binS]⟩
def en194:Ent Tryz.prog:=mc194.ent op194 sh194 (mc194.call2 (ms:=[]) Tryz.func194 (by kernel_rfl))
def mc195:Got (Tryz.f195.body.map (compile [0,1,4,5,14] Tryz.prog 17)):=.of (y:=PQ.made [0,1,4,5,14] pq 17 [] [] Tryz.f195.body) (by conv=>lhs; cbv) (by kernel_rfl)
def op195:GotO mc195.m:=⟨_,by conv=>lhs; cbv⟩
def sh195:GotS op195.m':=⟨_,by conv=>lhs; simp (config:={ maxSteps:=10000000 }) only [op195,toS,toO,zMI,zOp,binS]⟩
def en195:Ent Tryz.prog:=mc195.ent op195 sh195 (mc195.call2 (ms:=[.t 4]) Tryz.func195 (by kernel_rfl))
def mc196:Got (Tryz.f196.body.map (compile [0,1,2,4,6,7,9,16,27,36] Tryz.prog 58)):=.of (y:=PQ.made [0,1,2,4,6,7,9,16,27,36] pq 58 [(6,false)] [] Tryz.f196.body) (by conv=>lhs; cbv) (by kernel_rfl)
def op196:GotO mc196.m:=⟨_,by conv=>lhs; cbv⟩
def sh196:GotS op196.m':=⟨_,by conv=>lhs; simp (config:={ maxSteps:=10000000 }) only [op196,toS,toO,zMI,zOp,binS]⟩
def en196:Ent Tryz.prog:=mc196.ent op196 sh196 (mc196.call2 (ms:=[.t 6]) Tryz.func196 (by kernel_rfl))
def mc197:Got (Tryz.f197.body.map (compile [0,1,2,3,5,8,9,10,21,38,68] Tryz.prog 89)):=.of (y:=PQ.made [0,1,2,3,5,8,9,10,21,38,68] pq 89 [(10,false),(10,false)] [] Tryz.f197.body) (by conv=>lhs; cbv) (by kernel_rfl)
def op197:GotO mc197.m:=⟨_,by conv=>lhs; cbv⟩
def sh197:GotS op197.m':=⟨_,by conv=>lhs; simp (config:={ maxSteps:=10000000 }) only [op197,toS,toO,zMI,zOp,binS]⟩
def en197:Ent Tryz.prog:=mc197.ent op197 sh197 (mc197.call2 (ms:=[]) Tryz.func197 (by kernel_rfl))
def mc198:Got (Tryz.f198.body.map (compile [0,1,4,5,6,7,8,9] Tryz.prog 27)):=.of (y:=PQ.made [0,1,4,5,6,7,8,9] pq 27 [] [] Tryz.f198.body) (by conv=>lhs; cbv) (by kernel_rfl)
def op198:GotO mc198.m:=⟨_,by conv=>lhs; cbv⟩
def sh198:GotS op198.m':=⟨_,by conv=>lhs; simp (config:={ maxSteps:=10000000 }) only [op198,toS,toO,zMI,zOp,binS]⟩
def en198:Ent Tryz.prog:=mc198.ent op198 sh198 (mc198.call2 (ms:=[]) Tryz.func198 (by kernel_rfl))
def mc199:Got (Tryz.f199.body.map (compile [0,1,3,9] Tryz.prog 23)):=.of (y:=PQ.made [0,1,3,9] pq 23 [(8,false)] [] Tryz.f199.body) (by conv=>lhs; cbv) (by kernel_rfl)
def op199:GotO mc199.m:=⟨_,by conv=>lhs; cbv⟩
def sh199:GotS op199.m':=⟨_,by conv=>lhs; simp (config:={ maxSteps:=10000000 }) only [op199,toS,toO,zMI,zOp,binS]⟩
def en199:Ent Tryz.prog:=mc199.ent op199 sh199 (mc199.call2 (ms:=[]) Tryz.func199 (by kernel_rfl))
def mc200:Got (Tryz.f200.body.map (compile [0,1,2,3,5,8,9,10,15,16,22,30,43,50,61] Tryz.prog 87)):=.of (y:=PQ.made [0,1,2,3,5,8,9,10,15,16,22,30,43,50,61] pq 87 [] [] Tryz.f200.body) (by conv=>lhs; cbv) (by kernel_rfl)
def op200:GotO mc200.m:=⟨_,by conv=>lhs; cbv⟩
def sh200:GotS op200.m':=⟨_,by conv=>lhs; simp (config:={ maxSteps:=10000000 }) only [op200,toS,toO,zMI,zOp,binS]⟩
def en200:Ent Tryz.prog:=mc200.ent op200 sh200 (mc200.call2 (ms:=[]) Tryz.func200 (by kernel_rfl))
def mc201:Got (Tryz.f201.body.map (compile [0,1,3] Tryz.prog 12)):=.of (y:=PQ.made [0,1,3] pq 12 [] [] Tryz.f201.body) (by conv=>lhs; cbv) (by kernel_rfl)
def op201:GotO mc201.m:=⟨_,by conv=>lhs; cbv⟩
def sh201:GotS op201.m':=⟨_,by conv=>lhs; simp (config:={ maxSteps:=10000000 }) only [op201,toS,toO,zMI,zOp,binS]⟩
def en201:Ent Tryz.prog:=mc201.ent op201 sh201 (mc201.call2 (ms:=[.t 3]) Tryz.func201 (by kernel_rfl))
def mc202:Got (Tryz.f202.body.map (compile [0,1,4,13] Tryz.prog 19)):=.of (y:=PQ.made [0,1,4,13] pq 19 [] [] Tryz.f202.body) (by conv=>lhs; cbv) (by kernel_rfl)
def op202:GotO mc202.m:=⟨_,by conv=>lhs; cbv⟩
def sh202:GotS op202.m':=⟨_,by conv=>lhs; simp (config:={ maxSteps:=10000000 }) only [op202,toS,toO,zMI,zOp,binS]⟩
def en202:Ent Tryz.prog:=mc202.ent op202 sh202 (mc202.call2 (ms:=[]) Tryz.func202 (by kernel_rfl))
def mc203:Got (Tryz.f203.body.map (compile [0,1,4,5,7,8,9,16] Tryz.prog 19)):=.of (y:=PQ.made [0,1,4,5,7,8,9,16] pq 19 [] [] Tryz.f203.body) (by conv=>lhs; cbv) (by kernel_rfl)
def op203:GotO mc203.m:=⟨_,by conv=>lhs; cbv⟩
def sh203:GotS op203.m':=⟨_,by conv=>lhs; simp (config:={ maxSteps:=10000000 }) only [op203,toS,toO,zMI,zOp,binS]⟩
def en203:Ent Tryz.prog:=mc203.ent op203 sh203 (mc203.call2 (ms:=[.t 4]) Tryz.func203 (by kernel_rfl))
end
end Go.Proofs.YtiehnbbbhcaacaaGreatDoor.Ev
set_option linter.all false
set_option maxRecDepth 100000
set_option maxHeartbeats 4000000
namespace Go.Proofs.YtiehnbbbhcaacaaGreatDoor.Ev
open Go.AM
noncomputable section
def mc204:Got (Tryz.f204.body.map (compile [0,1,2,3,5,6,13,15,17,20,21,28,30,32,34,37,40] Tryz.prog 43)):=.of (y:=PQ.made [0,1,2,3,5,6,13,15,17,20,21,28,30,32,34,37,40] pq 43 [] [] Tryz.f204.body) (by conv=>lhs; cbv) (by kernel_rfl)
def op204:GotO mc204.m:=⟨_,by conv=>lhs; cbv⟩
def sh204:GotS op204.m':=⟨_,by conv=>lhs; simp (config:={ maxSteps:=10000000 }) only [op204,toS,toO,zMI,zOp,binS]⟩
def en204:Ent Tryz.prog:=mc204.ent op204 sh204 (mc204.call2 (ms:=[.t 2,.t 3]) Tryz.func204 (by kernel_rfl))
def mc205:Got (Tryz.f205.body.map (compile [0,1,3] Tryz.prog 7)):=.of (y:=PQ.made [0,1,3] pq 7 [] [] Tryz.f205.body) (by conv=>lhs; cbv) (by kernel_rfl)
def op205:GotO mc205.m:=⟨_,by conv=>lhs; cbv⟩
def sh205:GotS op205.m':=⟨_,by conv=>lhs; simp (config:={ maxSteps:=10000000 }) only [op205,toS,toO,zMI,zOp,binS]⟩
def en205:Ent Tryz.prog:=mc205.ent op205 sh205 (mc205.call2 (ms:=[.t 3]) Tryz.func205 (by kernel_rfl))
def mc207:Got (Tryz.f207.body.map (compile [0,1,2,5] Tryz.prog 17)):=.of (y:=PQ.made [0,1,2,5] pq 17 [] [] Tryz.f207.body) (by conv=>lhs; cbv) (by kernel_rfl)
def op207:GotO mc207.m:=⟨_,by conv=>lhs; cbv⟩
def sh207:GotS op207.m':=⟨_,by conv=>lhs; simp (config:={ maxSteps:=10000000 }) only [op207,toS,toO,zMI,zOp,binS]⟩
def en207:Ent Tryz.prog:=mc207.ent op207 sh207 (mc207.call2 (ms:=[.t 5]) Tryz.func207 (by kernel_rfl))
def mc209:Got (Tryz.f209.body.map (compile [0,1,4,5,7,8,9,16] Tryz.prog 19)):=.of (y:=PQ.made [0,1,4,5,7,8,9,16] pq 19 [] [] Tryz.f209.body) (by conv=>lhs; cbv) (by kernel_rfl)
def op209:GotO mc209.m:=⟨_,by conv=>lhs; cbv⟩
def sh209:GotS op209.m':=⟨_,by conv=>lhs; simp (config:={ maxSteps:=10000000 }) only [op209,toS,toO,zMI,zOp,binS]⟩
def en209:Ent Tryz.prog:=mc209.ent op209 sh209 (mc209.call2 (ms:=[.t 4]) Tryz.func209 (by kernel_rfl))
def mc211:Got (Tryz.f211.body.map (compile [0,1,2,6,15] Tryz.prog 18)):=.of (y:=PQ.made [0,1,2,6,15] pq 18 [] [] Tryz.f211.body) (by conv=>lhs; cbv) (by kernel_rfl)
def op211:GotO mc211.m:=⟨_,by conv=>lhs; cbv⟩
def sh211:GotS op211.m':=⟨_,by conv=>lhs; simp (config:={ maxSteps:=10000000 }) only [op211,toS,toO,zMI,zOp,binS]⟩
def en211:Ent Tryz.prog:=mc211.ent op211 sh211 (mc211.call2 (ms:=[.t 6]) Tryz.func211 (by kernel_rfl))
def mc212:Got (Tryz.f212.body.map (compile [0,2] Tryz.prog 9)):=.of (y:=PQ.made [0,2] pq 9 [] [] Tryz.f212.body) (by conv=>lhs; cbv) (by kernel_rfl)
def op212:GotO mc212.m:=⟨_,by conv=>lhs; cbv⟩
def sh212:GotS op212.m':=⟨_,by conv=>lhs; simp (config:={ maxSteps:=10000000 }) only [op212,toS,toO,zMI,zOp,binS]⟩
def en212:Ent Tryz.prog:=mc212.ent op212 sh212 (mc212.call2 (ms:=[.t 2]) Tryz.func212 (by kernel_rfl))
def mc213:Got (Tryz.f213.body.map (compile [0,1,4,5,6,7,8,9,34] Tryz.prog 43)):=.of (y:=PQ.made [0,1,4,5,6,7,8,9,34] pq 43 [] [] Tryz.f213.body) (by conv=>lhs; cbv) (by kernel_rfl)
def op213:GotO mc213.m:=⟨_,by conv=>lhs; cbv⟩
def sh213:GotS op213.m':=⟨_,by conv=>lhs; simp (config:={ maxSteps:=10000000 }) only [op213,toS,toO,zMI,zOp,binS]⟩
def en213:Ent Tryz.prog:=mc213.ent op213 sh213 (mc213.call2 (ms:=[.cell true 4 4,.t 5,.cell true 2 6]) Tryz.func213 (by kernel_rfl))
def mc214:Got (Tryz.f214.body.map (compile [0,2] Tryz.prog 9)):=.of (y:=PQ.made [0,2] pq 9 [] [] Tryz.f214.body) (by conv=>lhs; cbv) (by kernel_rfl)
def op214:GotO mc214.m:=⟨_,by conv=>lhs; cbv⟩
def sh214:GotS op214.m':=⟨_,by conv=>lhs; simp (config:={ maxSteps:=10000000 }) only [op214,toS,toO,zMI,zOp,binS]⟩
def en214:Ent Tryz.prog:=mc214.ent op214 sh214 (mc214.call2 (ms:=[.t 2]) Tryz.func214 (by kernel_rfl))
def mc215:Got (Tryz.f215.body.map (compile [0,1,4,5,6,7,8,9,13,21,33,49] Tryz.prog 54)):=.of (y:=PQ.made [0,1,4,5,6,7,8,9,13,21,33,49] pq 54 [] [] Tryz.f215.body) (by conv=>lhs; cbv) (by kernel_rfl)
def op215:GotO mc215.m:=⟨_,by conv=>lhs; cbv⟩
def sh215:GotS op215.m':=⟨_,by conv=>lhs; simp (config:={ maxSteps:=10000000 }) only [op215,toS,toO,zMI,zOp,binS]⟩
def en215:Ent Tryz.prog:=mc215.ent op215 sh215 (mc215.call2 (ms:=[.cell true 4 4,.t 5,.cell true 2 6]) Tryz.func215 (by kernel_rfl))
def mc217:Got (Tryz.f217.body.map (compile [0,1,4,6,7,8,9,10,17] Tryz.prog 20)):=.of (y:=PQ.made [0,1,4,6,7,8,9,10,17] pq 20 [] [] Tryz.f217.body) (by conv=>lhs; cbv) (by kernel_rfl)
def op217:GotO mc217.m:=⟨_,by conv=>lhs; cbv⟩
def sh217:GotS op217.m':=⟨_,by conv=>lhs; simp (config:={ maxSteps:=10000000 }) only [op217,toS,toO,zMI,zOp,binS]⟩
def en217:Ent Tryz.prog:=mc217.ent op217 sh217 (mc217.call2 (ms:=[.t 4]) Tryz.func217 (by kernel_rfl))
def mc219:Got (Tryz.f219.body.map (compile [0,1,4,5,6,15,19,26,33,38,42] Tryz.prog 57)):=.of (y:=PQ.made [0,1,4,5,6,15,19,26,33,38,42] pq 57 [(4,false),(4,false),(4,false)] [] Tryz.f219.body) (by conv=>lhs; cbv) (by kernel_rfl)
def op219:GotO mc219.m:=⟨_,by conv=>lhs; cbv⟩
def sh219:GotS op219.m':=⟨_,by conv=>lhs; simp (config:={ maxSteps:=10000000 }) only [op219,toS,toO,zMI,zOp,binS]⟩
def en219:Ent Tryz.prog:=mc219.ent op219 sh219 (mc219.call2 (ms:=[.cell true 5 4]) Tryz.func219 (by kernel_rfl))
def mc220:Got (Tryz.f220.body.map (compile [0,1,2] Tryz.prog 6)):=.of (y:=PQ.made [0,1,2] pq 6 [] [] Tryz.f220.body) (by conv=>lhs; cbv) (by kernel_rfl)
def op220:GotO mc220.m:=⟨_,by conv=>lhs; cbv⟩
def sh220:GotS op220.m':=⟨_,by conv=>lhs; simp (config:={ maxSteps:=10000000 }) only [op220,toS,toO,zMI,zOp,binS]⟩
def en220:Ent Tryz.prog:=mc220.ent op220 sh220 (mc220.call2 (ms:=[.cell true 7 2]) Tryz.func220 (by kernel_rfl))
end
end Go.Proofs.YtiehnbbbhcaacaaGreatDoor.Ev
set_option linter.all false
set_option maxRecDepth 100000
set_option maxHeartbeats 4000000
namespace Go.Proofs.YtiehnbbbhcaacaaGreatDoor.Ev
open Go.AM
noncomputable section
def mc221:Got (Tryz.f221.body.map (compile [0,1,2,3,5,6,7,8,9,10,16,31] Tryz.prog 51)):=.of (y:=PQ.made [0,1,2,3,5,6,7,8,9,10,16,31] pq 51 [(10,false),(8,false)] [] Tryz.f221.body) (by conv=>lhs; cbv) (by kernel_rfl)
def op221:GotO mc221.m:=⟨_,by conv=>lhs; cbv⟩
def sh221:GotS op221.m':=⟨_,by conv=>lhs; simp (config:={ maxSteps:=10000000 }) only [op221,toS,toO,zMI,zOp,binS]⟩
def en221:Ent Tryz.prog:=mc221.ent op221 sh221 (mc221.call2 (ms:=[.cell true 7 6]) Tryz.func221 (by kernel_rfl))
def mc222:Got (Tryz.f222.body.map (compile [0,1,2] Tryz.prog 6)):=.of (y:=PQ.made [0,1,2] pq 6 [] [] Tryz.f222.body) (by conv=>lhs; cbv) (by kernel_rfl)
def op222:GotO mc222.m:=⟨_,by conv=>lhs; cbv⟩
def sh222:GotS op222.m':=⟨_,by conv=>lhs; simp (config:={ maxSteps:=10000000 }) only [op222,toS,toO,zMI,zOp,binS]⟩
def en222:Ent Tryz.prog:=mc222.ent op222 sh222 (mc222.call2 (ms:=[.cell true 7 2]) Tryz.func222 (by kernel_rfl))
def mc224:Got (Tryz.f224.body.map (compile [0,1,4,6,16] Tryz.prog 27)):=.of (y:=PQ.made [0,1,4,6,16] pq 27 [] [] Tryz.f224.body) (by conv=>lhs; cbv) (by kernel_rfl)
def op224:GotO mc224.m:=⟨_,by conv=>lhs; cbv⟩
def sh224:GotS op224.m':=⟨_,by conv=>lhs; simp (config:={ maxSteps:=10000000 }) only [op224,toS,toO,zMI,zOp,binS]⟩
def en224:Ent Tryz.prog:=mc224.ent op224 sh224 (mc224.call2 (ms:=[.t 4]) Tryz.func224 (by kernel_rfl))
def mc225:Got (Tryz.f225.body.map (compile [0,1,4,6,16] Tryz.prog 27)):=.of (y:=PQ.made [0,1,4,6,16] pq 27 [] [] Tryz.f225.body) (by conv=>lhs; cbv) (by kernel_rfl)
def op225:GotO mc225.m:=⟨_,by conv=>lhs; cbv⟩
def sh225:GotS op225.m':=⟨_,by conv=>lhs; simp (config:={ maxSteps:=10000000 }) only [op225,toS,toO,zMI,zOp,binS]⟩
def en225:Ent Tryz.prog:=mc225.ent op225 sh225 (mc225.call2 (ms:=[.t 4]) Tryz.func225 (by kernel_rfl))
def mc234:Got (Tryz.f234.body.map (compile [0,2] Tryz.prog 6)):=.of (y:=PQ.made [0,2] pq 6 [] [] Tryz.f234.body) (by conv=>lhs; cbv) (by kernel_rfl)
def op234:GotO mc234.m:=⟨_,by conv=>lhs; cbv⟩
def sh234:GotS op234.m':=⟨_,by conv=>lhs; simp (config:={ maxSteps:=10000000 }) only [op234,toS,toO,zMI,zOp,binS]⟩
def en234:Ent Tryz.prog:=mc234.ent op234 sh234 (mc234.call2 (ms:=[.t 2]) Tryz.func234 (by kernel_rfl))
def mc235:Got (Tryz.f235.body.map (compile [0,2,3,4,6] Tryz.prog 12)):=.of (y:=PQ.made [0,2,3,4,6] pq 12 [] [] Tryz.f235.body) (by conv=>lhs; cbv) (by kernel_rfl)
def op235:GotO mc235.m:=⟨_,by conv=>lhs; cbv⟩
def sh235:GotS op235.m':=⟨_,by conv=>lhs; simp (config:={ maxSteps:=10000000 }) only [op235,toS,toO,zMI,zOp,binS]⟩
def en235:Ent Tryz.prog:=mc235.ent op235 sh235 (mc235.call2 (ms:=[.t 2]) Tryz.func235 (by kernel_rfl))
def mc236:Got (Tryz.f236.body.map (compile [0,1,4] Tryz.prog 9)):=.of (y:=PQ.made [0,1,4] pq 9 [] [] Tryz.f236.body) (by conv=>lhs; cbv) (by kernel_rfl)
def op236:GotO mc236.m:=⟨_,by conv=>lhs; cbv⟩
def sh236:GotS op236.m':=⟨_,by conv=>lhs; simp (config:={ maxSteps:=10000000 }) only [op236,toS,toO,zMI,zOp,binS]⟩
def en236:Ent Tryz.prog:=mc236.ent op236 sh236 (mc236.call2 (ms:=[.t 4]) Tryz.func236 (by kernel_rfl))
def mc237:Got (Tryz.f237.body.map (compile [0,1,2] Tryz.prog 6)):=.of (y:=PQ.made [0,1,2] pq 6 [] [] Tryz.f237.body) (by conv=>lhs; cbv) (by kernel_rfl)
def op237:GotO mc237.m:=⟨_,by conv=>lhs; cbv⟩
def sh237:GotS op237.m':=⟨_,by conv=>lhs; simp (config:={ maxSteps:=10000000 }) only [op237,toS,toO,zMI,zOp,binS]⟩
def en237:Ent Tryz.prog:=mc237.ent op237 sh237 (mc237.call2 (ms:=[.t 2]) Tryz.func237 (by kernel_rfl))
def mc240:Got (Tryz.f240.body.map (compile [0,2] Tryz.prog 6)):=.of (y:=PQ.made [0,2] pq 6 [] [] Tryz.f240.body) (by conv=>lhs; cbv) (by kernel_rfl)
def op240:GotO mc240.m:=⟨_,by conv=>lhs; cbv⟩
def sh240:GotS op240.m':=⟨_,by conv=>lhs; simp (config:={ maxSteps:=10000000 }) only [op240,toS,toO,zMI,zOp,binS]⟩
def en240:Ent Tryz.prog:=mc240.ent op240 sh240 (mc240.call2 (ms:=[.t 2]) Tryz.func240 (by kernel_rfl))
def mc242:Got (Tryz.f242.body.map (compile [0,2] Tryz.prog 17)):=.of (y:=PQ.made [0,2] pq 17 [] [] Tryz.f242.body) (by conv=>lhs; cbv) (by kernel_rfl)
def op242:GotO mc242.m:=⟨_,by conv=>lhs; cbv⟩
def sh242:GotS op242.m':=⟨_,by conv=>lhs; simp (config:={ maxSteps:=10000000 }) only [op242,toS,toO,zMI,zOp,binS]⟩
def en242:Ent Tryz.prog:=mc242.ent op242 sh242 (mc242.call2 (ms:=[.t 2]) Tryz.func242 (by kernel_rfl))
def mc243:Got (Tryz.f243.body.map (compile [0,1,2,3,4,6,7,9,14,19,21,23,32,41,44,46,48,50,56,61] Tryz.prog 70)):=.of (y:=PQ.made [0,1,2,3,4,6,7,9,14,19,21,23,32,41,44,46,48,50,56,61] pq 70 [(9,false),(9,false),(6,false),(9,false)] [] Tryz.f243.body) (by conv=>lhs; cbv) (by kernel_rfl)
def op243:GotO mc243.m:=⟨_,by conv=>lhs; cbv⟩
def sh243:GotS op243.m':=⟨_,by conv=>lhs; simp (config:={ maxSteps:=10000000 }) only [op243,toS,toO,zMI,zOp,binS]⟩
def en243:Ent Tryz.prog:=mc243.ent op243 sh243 (mc243.call2 (ms:=[.t 2,.t 3,.t 4]) Tryz.func243 (by kernel_rfl))
def mc244:Got (Tryz.f244.body.map (compile [0,1,2,3,4,5] Tryz.prog 70)):=.of (y:=PQ.made [0,1,2,3,4,5] pq 70 [] [] Tryz.f244.body) (by conv=>lhs; cbv) (by kernel_rfl)
def op244:GotO mc244.m:=⟨_,by conv=>lhs; cbv⟩
def sh244:GotS op244.m':=⟨_,by conv=>lhs; simp (config:={ maxSteps:=10000000 }) only [op244,toS,toO,zMI,zOp,binS]⟩
def en244:Ent Tryz.prog:=mc244.ent op244 sh244 (mc244.call2 (ms:=[.t 4]) Tryz.func244 (by kernel_rfl))
end
end Go.Proofs.YtiehnbbbhcaacaaGreatDoor.Ev
set_option linter.all false
set_option maxRecDepth 100000
set_option maxHeartbeats 4000000
namespace Go.Proofs.YtiehnbbbhcaacaaGreatDoor.Ev
open Go.AM
noncomputable section
def mc245:Got (Tryz.f245.body.map (compile [0,1,2,3,6,7,9,20,30,31,32,33] Tryz.prog 47)):=.of (y:=PQ.made [0,1,2,3,6,7,9,20,30,31,32,33] pq 47 [(7,false)] [] Tryz.f245.body) (by conv=>lhs; cbv) (by kernel_rfl)
def op245:GotO mc245.m:=⟨_,by conv=>lhs; cbv⟩
def sh245:GotS op245.m':=⟨_,by conv=>lhs; simp (config:={ maxSteps:=10000000 }) only [op245,toS,toO,zMI,zOp,binS]⟩
def en245:Ent Tryz.prog:=mc245.ent op245 sh245 (mc245.call2 (ms:=[.cell true 4 6]) Tryz.func245 (by kernel_rfl))
def mc246:Got (Tryz.f246.body.map (compile [0,1,2,3,4,5,12,13,14,15,36] Tryz.prog 52)):=.of (y:=PQ.made [0,1,2,3,4,5,12,13,14,15,36] pq 52 [(20,false)] [] Tryz.f246.body) (by conv=>lhs; cbv) (by kernel_rfl)
def op246:GotO mc246.m:=⟨_,by conv=>lhs; cbv⟩
def sh246:GotS op246.m':=⟨_,by conv=>lhs; simp (config:={ maxSteps:=10000000 }) only [op246,toS,toO,zMI,zOp,binS]⟩
def en246:Ent Tryz.prog:=mc246.ent op246 sh246 (mc246.call2 (ms:=[.cell true 4 12,.t 13]) Tryz.func246 (by kernel_rfl))
def mc247:Got (Tryz.f247.body.map (compile [0,1,2,3,4] Tryz.prog 31)):=.of (y:=PQ.made [0,1,2,3,4] pq 31 [] [] Tryz.f247.body) (by conv=>lhs; cbv) (by kernel_rfl)
def op247:GotO mc247.m:=⟨_,by conv=>lhs; cbv⟩
def sh247:GotS op247.m':=⟨_,by conv=>lhs; simp (config:={ maxSteps:=10000000 }) only [op247,toS,toO,zMI,zOp,binS]⟩
def en247:Ent Tryz.prog:=mc247.ent op247 sh247 (mc247.call2 (ms:=[.t 4]) Tryz.func247 (by kernel_rfl))
def mc249:Got (Tryz.f249.body.map (compile [0,2,3,5,6,8,9,10,11,12,20,25,26,27,28] Tryz.prog 36)):=.of (y:=PQ.made [0,2,3,5,6,8,9,10,11,12,20,25,26,27,28] pq 36 [] [] Tryz.f249.body) (by conv=>lhs; cbv) (by kernel_rfl)
def op249:GotO mc249.m:=⟨_,by conv=>lhs; cbv⟩
def sh249:GotS op249.m':=⟨_,by conv=>lhs; simp (config:={ maxSteps:=10000000 }) only [op249,toS,toO,zMI,zOp,binS]⟩
def en249:Ent Tryz.prog:=mc249.ent op249 sh249 (mc249.call2 (ms:=[.t 2]) Tryz.func249 (by kernel_rfl))
def mc250:Got (Tryz.f250.body.map (compile [0,1,2,3,5,6,8,9,10,11,12,13,14,15,16,17,18,19,58,97,99,100,102,106,116,126,135,149,150,166,172,174,175,176,177,193] Tryz.prog 199)):=.of (y:=PQ.made [0,1,2,3,5,6,8,9,10,11,12,13,14,15,16,17,18,19,58,97,99,100,102,106,116,126,135,149,150,166,172,174,175,176,177,193] pq 199 [(9,false),(4,false),(15,false),(12,false)] [] Tryz.f250.body) (by conv=>lhs; cbv) (by kernel_rfl)
def op250:GotO mc250.m:=⟨_,by conv=>lhs; cbv⟩
def sh250:GotS op250.m':=⟨_,by conv=>lhs; simp (config:={ maxSteps:=10000000 }) only [op250,toS,toO,zMI,zOp,binS]⟩
def en250:Ent Tryz.prog:=mc250.ent op250 sh250 (mc250.call2 (ms:=[.t 8,.t 9]) Tryz.func250 (by kernel_rfl))
def mc251:Got (Tryz.f251.body.map (compile [0,2,3,5,6,7,8,9] Tryz.prog 19)):=.of (y:=PQ.made [0,2,3,5,6,7,8,9] pq 19 [] [] Tryz.f251.body) (by conv=>lhs; cbv) (by kernel_rfl)
def op251:GotO mc251.m:=⟨_,by conv=>lhs; cbv⟩
def sh251:GotS op251.m':=⟨_,by conv=>lhs; simp (config:={ maxSteps:=10000000 }) only [op251,toS,toO,zMI,zOp,binS]⟩
def en251:Ent Tryz.prog:=mc251.ent op251 sh251 (mc251.call2 (ms:=[.t 2]) Tryz.func251 (by kernel_rfl))
def mc252:Got (Tryz.f252.body.map (compile [0,1,2,3,8,9,10,11,12,13,19,20,21,33] Tryz.prog 40)):=.of (y:=PQ.made [0,1,2,3,8,9,10,11,12,13,19,20,21,33] pq 40 [] [] Tryz.f252.body) (by conv=>lhs; cbv) (by kernel_rfl)
def op252:GotO mc252.m:=⟨_,by conv=>lhs; cbv⟩
def sh252:GotS op252.m':=⟨_,by conv=>lhs; simp (config:={ maxSteps:=10000000 }) only [op252,toS,toO,zMI,zOp,binS]⟩
def en252:Ent Tryz.prog:=mc252.ent op252 sh252 (mc252.call2 (ms:=[.t 8,.t 9]) Tryz.func252 (by kernel_rfl))
def mc254:Got (Tryz.f254.body.map (compile [0,1,2,4,5,6,7,8,10,11,16,22] Tryz.prog 39)):=.of (y:=PQ.made [0,1,2,4,5,6,7,8,10,11,16,22] pq 39 [(13,false)] [] Tryz.f254.body) (by conv=>lhs; cbv) (by kernel_rfl)
def op254:GotO mc254.m:=⟨_,by conv=>lhs; cbv⟩
def sh254:GotS op254.m':=⟨_,by conv=>lhs; simp (config:={ maxSteps:=10000000 }) only [op254,toS,toO,zMI,zOp,binS]⟩
def en254:Ent Tryz.prog:=mc254.ent op254 sh254 (mc254.call2 (ms:=[.cell true 4 6,.t 7]) Tryz.func254 (by kernel_rfl))
def mc255:Got (Tryz.f255.body.map (compile [0,1,4,5,6,7,10,19,27,38] Tryz.prog 46)):=.of (y:=PQ.made [0,1,4,5,6,7,10,19,27,38] pq 46 [(7,false),(7,false)] [] Tryz.f255.body) (by conv=>lhs; cbv) (by kernel_rfl)
def op255:GotO mc255.m:=⟨_,by conv=>lhs; cbv⟩
def sh255:GotS op255.m':=⟨_,by conv=>lhs; simp (config:={ maxSteps:=10000000 }) only [op255,toS,toO,zMI,zOp,binS]⟩
def en255:Ent Tryz.prog:=mc255.ent op255 sh255 (mc255.call2 (ms:=[.cell true 4 4,.t 5]) Tryz.func255 (by kernel_rfl))
def mc256:Got (Tryz.f256.body.map (compile [0,2] Tryz.prog 5)):=.of (y:=PQ.made [0,2] pq 5 [] [] Tryz.f256.body) (by conv=>lhs; cbv) (by kernel_rfl)
def op256:GotO mc256.m:=⟨_,by conv=>lhs; cbv⟩
def sh256:GotS op256.m':=⟨_,by conv=>lhs; simp (config:={ maxSteps:=10000000 }) only [op256,toS,toO,zMI,zOp,binS]⟩
def en256:Ent Tryz.prog:=mc256.ent op256 sh256 (mc256.call2 (ms:=[.cell true 3 2]) Tryz.func256 (by kernel_rfl))
def mc259:Got (Tryz.f259.body.map (compile [0,1,2,3,4,5,8,9,12] Tryz.prog 34)):=.of (y:=PQ.made [0,1,2,3,4,5,8,9,12] pq 34 [(7,false),(9,false)] [] Tryz.f259.body) (by conv=>lhs; cbv) (by kernel_rfl)
def op259:GotO mc259.m:=⟨_,by conv=>lhs; cbv⟩
def sh259:GotS op259.m':=⟨_,by conv=>lhs; simp (config:={ maxSteps:=10000000 }) only [op259,toS,toO,zMI,zOp,binS]⟩
def en259:Ent Tryz.prog:=mc259.ent op259 sh259 (mc259.call2 (ms:=[.cell true 11 8]) Tryz.func259 (by kernel_rfl))
def mc261:Got (Tryz.f261.body.map (compile [0,1,2,3,4,5,7] Tryz.prog 16)):=.of (y:=PQ.made [0,1,2,3,4,5,7] pq 16 [(7,false)] [] Tryz.f261.body) (by conv=>lhs; cbv) (by kernel_rfl)
def op261:GotO mc261.m:=⟨_,by conv=>lhs; cbv⟩
def sh261:GotS op261.m':=⟨_,by conv=>lhs; simp (config:={ maxSteps:=10000000 }) only [op261,toS,toO,zMI,zOp,binS]⟩
def en261:Ent Tryz.prog:=mc261.ent op261 sh261 (mc261.call2 (ms:=[.cell true 11 7]) Tryz.func261 (by kernel_rfl))
end
end Go.Proofs.YtiehnbbbhcaacaaGreatDoor.Ev