/- Texts RevQ RevR RevS RevT RevU RevV RevW RevZ, merged. -/
import Derived.Test.YtiehnbbbhcaacaaGreatDoorKAD
import Derived.KernelRfl
set_option linter.all false
set_option maxRecDepth 100000
set_option maxHeartbeats 4000000
namespace Go.Proofs.YtiehnbbbhcaacaaGreatDoor.Ev
open Go.AM
noncomputable section
def mc262:Got (Tryz.f262.body.map (compile [0,1,2,3,4,5,7,8] Tryz.prog 18)):=.of (y:=PQ.made [0,1,2,3,4,5,7,8] pq 18 [] [] Tryz.f262.body) (by conv=>lhs; cbv) (by kernel_rfl)
def op262:GotO mc262.m:=⟨_,by conv=>lhs; cbv⟩
def sh262:GotS op262.m':=⟨_,by conv=>lhs; simp (config:={ maxSteps:=10000000 }) only [op262,toS,toO,zMI,zOp,binS]⟩
def en262:Ent Tryz.prog:=mc262.ent op262 sh262 (mc262.call2 (ms:=[.cell true 11 7]) Tryz.func262 (by kernel_rfl))
def mc263:Got (Tryz.f263.body.map (compile [0,1,2,3,4,7,10,11,12,22,44] Tryz.prog 73)):=.of (y:=PQ.made [0,1,2,3,4,7,10,11,12,22,44] pq 73 [(13,false),(12,false)] [] Tryz.f263.body) (by conv=>lhs; cbv) (by kernel_rfl)
def op263:GotO mc263.m:=⟨_,by conv=>lhs; cbv⟩
def sh263:GotS op263.m':=⟨_,by conv=>lhs; simp (config:={ maxSteps:=10000000 }) only [op263,toS,toO,zMI,zOp,binS]⟩
def en263:Ent Tryz.prog:=mc263.ent op263 sh263 (mc263.call2 (ms:=[.cell true 11 10]) Tryz.func263 (by kernel_rfl))
def mc264:Got (Tryz.f264.body.map (compile [0,1,2,3,4,5,7,8,9] Tryz.prog 14)):=.of (y:=PQ.made [0,1,2,3,4,5,7,8,9] pq 14 [] [] Tryz.f264.body) (by conv=>lhs; cbv) (by kernel_rfl)
def op264:GotO mc264.m:=⟨_,by conv=>lhs; cbv⟩
def sh264:GotS op264.m':=⟨_,by conv=>lhs; simp (config:={ maxSteps:=10000000 }) only [op264,toS,toO,zMI,zOp,binS]⟩
def en264:Ent Tryz.prog:=mc264.ent op264 sh264 (mc264.call2 (ms:=[.cell true 11 8]) Tryz.func264 (by kernel_rfl))
def mc265:Got (Tryz.f265.body.map (compile [0,1,2,3,6,7,19,31,54] Tryz.prog 81)):=.of (y:=PQ.made [0,1,2,3,6,7,19,31,54] pq 81 [(15,false),(9,false)] [] Tryz.f265.body) (by conv=>lhs; cbv) (by kernel_rfl)
def op265:GotO mc265.m:=⟨_,by conv=>lhs; cbv⟩
def sh265:GotS op265.m':=⟨_,by conv=>lhs; simp (config:={ maxSteps:=10000000 }) only [op265,toS,toO,zMI,zOp,binS]⟩
def en265:Ent Tryz.prog:=mc265.ent op265 sh265 (mc265.call2 (ms:=[.cell true 11 6]) Tryz.func265 (by kernel_rfl))
def mc267:Got (Tryz.f267.body.map (compile [0,1,2,3,4,5,6,42,62] Tryz.prog 107)):=.of (y:=PQ.made [0,1,2,3,4,5,6,42,62] pq 107 [] [] Tryz.f267.body) (by conv=>lhs; cbv) (by kernel_rfl)
def op267:GotO mc267.m:=⟨_,by conv=>lhs; cbv⟩
def sh267:GotS op267.m':=⟨_,by conv=>lhs; simp (config:={ maxSteps:=10000000 }) only [op267,toS,toO,zMI,zOp,binS]⟩
def en267:Ent Tryz.prog:=mc267.ent op267 sh267 (mc267.call2 (ms:=[.t 2]) Tryz.func267 (by kernel_rfl))
def mc268:Got (Tryz.f268.body.map (compile [0,1,2,3,4,6,10,11,12,13,14,15,16,19,21,49,59,69,74,92,106] Tryz.prog 132)):=.of (y:=PQ.made [0,1,2,3,4,6,10,11,12,13,14,15,16,19,21,49,59,69,74,92,106] pq 132 [] [] Tryz.f268.body) (by conv=>lhs; cbv) (by kernel_rfl)
def op268:GotO mc268.m:=⟨_,by conv=>lhs; cbv⟩
def sh268:GotS op268.m':=⟨_,by conv=>lhs; simp (config:={ maxSteps:=10000000 }) only [op268,toS,toO,zMI,zOp,binS]⟩
def en268:Ent Tryz.prog:=mc268.ent op268 sh268 (mc268.call2 (ms:=[.cell true 6 10,.t 11,.t 12]) Tryz.func268 (by kernel_rfl))
def mc269:Got (Tryz.f269.body.map (compile [1,2,4,6,7,8,9,10,19,21,54,62,65,71,77] Tryz.prog 90)):=.of (y:=PQ.made [1,2,4,6,7,8,9,10,19,21,54,62,65,71,77] pq 90 [(7,false),(11,false)] [] Tryz.f269.body) (by conv=>lhs; cbv) (by kernel_rfl)
def op269:GotO mc269.m:=⟨_,by conv=>lhs; cbv⟩
def sh269:GotS op269.m':=⟨_,by conv=>lhs; simp (config:={ maxSteps:=10000000 }) only [op269,toS,toO,zMI,zOp,binS]⟩
def en269:Ent Tryz.prog:=mc269.ent op269 sh269 (mc269.call2 (ms:=[.cell true 4 6,.t 7]) Tryz.func269 (by kernel_rfl))
def mc270:Got (Tryz.f270.body.map (compile [0,1,2,4,6,7,8,11,23,25,26,31] Tryz.prog 57)):=.of (y:=PQ.made [0,1,2,4,6,7,8,11,23,25,26,31] pq 57 [(18,false)] [] Tryz.f270.body) (by conv=>lhs; cbv) (by kernel_rfl)
def op270:GotO mc270.m:=⟨_,by conv=>lhs; cbv⟩
def sh270:GotS op270.m':=⟨_,by conv=>lhs; simp (config:={ maxSteps:=10000000 }) only [op270,toS,toO,zMI,zOp,binS]⟩
def en270:Ent Tryz.prog:=mc270.ent op270 sh270 (mc270.call2 (ms:=[.t 6]) Tryz.func270 (by kernel_rfl))
def mc271:Got (Tryz.f271.body.map (compile [0,1,2,4,6,7,8,9,10,11,12,13,14,15,16,17,18,20,21,81,112] Tryz.prog 138)):=.of (y:=PQ.made [0,1,2,4,6,7,8,9,10,11,12,13,14,15,16,17,18,20,21,81,112] pq 138 [(26,false)] [] Tryz.f271.body) (by conv=>lhs; cbv) (by kernel_rfl)
def op271:GotO mc271.m:=⟨_,by conv=>lhs; cbv⟩
def sh271:GotS op271.m':=⟨_,by conv=>lhs; simp (config:={ maxSteps:=10000000 }) only [op271,toS,toO,zMI,zOp,binS]⟩
def en271:Ent Tryz.prog:=mc271.ent op271 sh271 (mc271.call2 (ms:=[.t 6]) Tryz.func271 (by kernel_rfl))
def mc272:Got (Tryz.f272.body.map (compile [0,1,2] Tryz.prog 5)):=.of (y:=PQ.made [0,1,2] pq 5 [] [] Tryz.f272.body) (by conv=>lhs; cbv) (by kernel_rfl)
def op272:GotO mc272.m:=⟨_,by conv=>lhs; cbv⟩
def sh272:GotS op272.m':=⟨_,by conv=>lhs; simp (config:={ maxSteps:=10000000 }) only [op272,toS,toO,zMI,zOp,binS]⟩
def en272:Ent Tryz.prog:=mc272.ent op272 sh272 (mc272.call2 (ms:=[.cell true 6 2]) Tryz.func272 (by kernel_rfl))
def mc274:Got (Tryz.f274.body.map (compile [0,1,2,6,7,8,10,11,12,13,14,15,16,27] Tryz.prog 34)):=.of (y:=PQ.made [0,1,2,6,7,8,10,11,12,13,14,15,16,27] pq 34 [] [] Tryz.f274.body) (by conv=>lhs; cbv) (by kernel_rfl)
def op274:GotO mc274.m:=⟨_,by conv=>lhs; cbv⟩
def sh274:GotS op274.m':=⟨_,by conv=>lhs; simp (config:={ maxSteps:=10000000 }) only [op274,toS,toO,zMI,zOp,binS]⟩
def en274:Ent Tryz.prog:=mc274.ent op274 sh274 (mc274.call2 (ms:=[.t 6,.t 7]) Tryz.func274 (by kernel_rfl))
def mc275:Got (Tryz.f275.body.map (compile [0,1,2,3,5,8,9,10,11,12,13,14,15,16,17,18,19,21,22,27,53,58,68,108,126] Tryz.prog 160)):=.of (y:=PQ.made [0,1,2,3,5,8,9,10,11,12,13,14,15,16,17,18,19,21,22,27,53,58,68,108,126] pq 160 [(14,false),(7,false),(19,false),(23,false),(14,false),(6,false),(20,false)] [] Tryz.f275.body) (by conv=>lhs; cbv) (by kernel_rfl)
def op275:GotO mc275.m:=⟨_,by conv=>lhs; cbv⟩
def sh275:GotS op275.m':=⟨_,by conv=>lhs; simp (config:={ maxSteps:=10000000 }) only [op275,toS,toO,zMI,zOp,binS]⟩
def en275:Ent Tryz.prog:=mc275.ent op275 sh275 (mc275.call2 (ms:=[.cell true 6 8,.t 9]) Tryz.func275 (by kernel_rfl))
end
end Go.Proofs.YtiehnbbbhcaacaaGreatDoor.Ev
set_option linter.all false
set_option maxRecDepth 100000
set_option maxHeartbeats 4000000
namespace Go.Proofs.YtiehnbbbhcaacaaGreatDoor.Ev
open Go.AM
noncomputable section
def mc276:Got (Tryz.f276.body.map (compile [0,1,4,5,6,7,12,19,29] Tryz.prog 42)):=.of (y:=PQ.made [0,1,4,5,6,7,12,19,29] pq 42 [] [] Tryz.f276.body) (by conv=>lhs; cbv) (by kernel_rfl)
def op276:GotO mc276.m:=⟨_,by conv=>lhs; cbv⟩
def sh276:GotS op276.m':=⟨_,by conv=>lhs; simp (config:={ maxSteps:=10000000 }) only [op276,toS,toO,zMI,zOp,binS]⟩
def en276:Ent Tryz.prog:=mc276.ent op276 sh276 (mc276.call2 (ms:=[.t 4]) Tryz.func276 (by kernel_rfl))
def mc277:Got (Tryz.f277.body.map (compile [0,1,2,3,4,5,6,13] Tryz.prog 25)):=.of (y:=PQ.made [0,1,2,3,4,5,6,13] pq 25 [] [] Tryz.f277.body) (by conv=>lhs; cbv) (by kernel_rfl)
def op277:GotO mc277.m:=⟨_,by conv=>lhs; cbv⟩
def sh277:GotS op277.m':=⟨_,by conv=>lhs; simp (config:={ maxSteps:=10000000 }) only [op277,toS,toO,zMI,zOp,binS]⟩
def en277:Ent Tryz.prog:=mc277.ent op277 sh277 (mc277.call2 (ms:=[.t 4]) Tryz.func277 (by kernel_rfl))
def mc278:Got (Tryz.f278.body.map (compile [0,1,3] Tryz.prog 7)):=.of (y:=PQ.made [0,1,3] pq 7 [] [] Tryz.f278.body) (by conv=>lhs; cbv) (by kernel_rfl)
def op278:GotO mc278.m:=⟨_,by conv=>lhs; cbv⟩
def sh278:GotS op278.m':=⟨_,by conv=>lhs; simp (config:={ maxSteps:=10000000 }) only [op278,toS,toO,zMI,zOp,binS]⟩
def en278:Ent Tryz.prog:=mc278.ent op278 sh278 (mc278.call2 (ms:=[.t 3]) Tryz.func278 (by kernel_rfl))
def mc279:Got (Tryz.f279.body.map (compile [0,1,4,6,16] Tryz.prog 27)):=.of (y:=PQ.made [0,1,4,6,16] pq 27 [] [] Tryz.f279.body) (by conv=>lhs; cbv) (by kernel_rfl)
def op279:GotO mc279.m:=⟨_,by conv=>lhs; cbv⟩
def sh279:GotS op279.m':=⟨_,by conv=>lhs; simp (config:={ maxSteps:=10000000 }) only [op279,toS,toO,zMI,zOp,binS]⟩
def en279:Ent Tryz.prog:=mc279.ent op279 sh279 (mc279.call2 (ms:=[.t 4]) Tryz.func279 (by kernel_rfl))
def mc280:Got (Tryz.f280.body.map (compile [0,1,4,6,16] Tryz.prog 27)):=.of (y:=PQ.made [0,1,4,6,16] pq 27 [] [] Tryz.f280.body) (by conv=>lhs; cbv) (by kernel_rfl)
def op280:GotO mc280.m:=⟨_,by conv=>lhs; cbv⟩
def sh280:GotS op280.m':=⟨_,by conv=>lhs; simp (config:={ maxSteps:=10000000 }) only [op280,toS,toO,zMI,zOp,binS]⟩
def en280:Ent Tryz.prog:=mc280.ent op280 sh280 (mc280.call2 (ms:=[.t 4]) Tryz.func280 (by kernel_rfl))
def mc281:Got (Tryz.f281.body.map (compile [0,1,2,3,4,6,7,12,14,16,18,20,22,24,26,28,31,33,35,37,39,41,43] Tryz.prog 45)):=.of (y:=PQ.made [0,1,2,3,4,6,7,12,14,16,18,20,22,24,26,28,31,33,35,37,39,41,43] pq 45 [] [] Tryz.f281.body) (by conv=>lhs; cbv) (by kernel_rfl)
def op281:GotO mc281.m:=⟨_,by conv=>lhs; cbv⟩
def sh281:GotS op281.m':=⟨_,by conv=>lhs; simp (config:={ maxSteps:=10000000 }) only [op281,toS,toO,zMI,zOp,binS]⟩
def en281:Ent Tryz.prog:=mc281.ent op281 sh281 (mc281.call2 (ms:=[.t 2,.t 3,.t 4]) Tryz.func281 (by kernel_rfl))
def mc282:Got (Tryz.f282.body.map (compile [0,1,4,5,7,8,9,16] Tryz.prog 19)):=.of (y:=PQ.made [0,1,4,5,7,8,9,16] pq 19 [] [] Tryz.f282.body) (by conv=>lhs; cbv) (by kernel_rfl)
def op282:GotO mc282.m:=⟨_,by conv=>lhs; cbv⟩
def sh282:GotS op282.m':=⟨_,by conv=>lhs; simp (config:={ maxSteps:=10000000 }) only [op282,toS,toO,zMI,zOp,binS]⟩
def en282:Ent Tryz.prog:=mc282.ent op282 sh282 (mc282.call2 (ms:=[.t 4]) Tryz.func282 (by kernel_rfl))
def mc284:Got (Tryz.f284.body.map (compile [0,1,2,3] Tryz.prog 13)):=.of (y:=PQ.made [0,1,2,3] pq 13 [] [] Tryz.f284.body) (by conv=>lhs; cbv) (by kernel_rfl)
def op284:GotO mc284.m:=⟨_,by conv=>lhs; cbv⟩
def sh284:GotS op284.m':=⟨_,by conv=>lhs; simp (config:={ maxSteps:=10000000 }) only [op284,toS,toO,zMI,zOp,binS]⟩
def en284:Ent Tryz.prog:=mc284.ent op284 sh284 (mc284.call2 (ms:=[.t 3]) Tryz.func284 (by kernel_rfl))
def mc285:Got (Tryz.f285.body.map (compile [0,1,4] Tryz.prog 9)):=.of (y:=PQ.made [0,1,4] pq 9 [] [] Tryz.f285.body) (by conv=>lhs; cbv) (by kernel_rfl)
def op285:GotO mc285.m:=⟨_,by conv=>lhs; cbv⟩
def sh285:GotS op285.m':=⟨_,by conv=>lhs; simp (config:={ maxSteps:=10000000 }) only [op285,toS,toO,zMI,zOp,binS]⟩
def en285:Ent Tryz.prog:=mc285.ent op285 sh285 (mc285.call2 (ms:=[.t 4]) Tryz.func285 (by kernel_rfl))
def mc286:Got (Tryz.f286.body.map (compile [0,1,2,3] Tryz.prog 7)):=.of (y:=PQ.made [0,1,2,3] pq 7 [] [] Tryz.f286.body) (by conv=>lhs; cbv) (by kernel_rfl)
def op286:GotO mc286.m:=⟨_,by conv=>lhs; cbv⟩
def sh286:GotS op286.m':=⟨_,by conv=>lhs; simp (config:={ maxSteps:=10000000 }) only [op286,toS,toO,zMI,zOp,binS]⟩
def en286:Ent Tryz.prog:=mc286.ent op286 sh286 (mc286.call2 (ms:=[.t 3]) Tryz.func286 (by kernel_rfl))
def mc287:Got (Tryz.f287.body.map (compile [0,1,2] Tryz.prog 11)):=.of (y:=PQ.made [0,1,2] pq 11 [] [] Tryz.f287.body) (by conv=>lhs; cbv) (by kernel_rfl)
def op287:GotO mc287.m:=⟨_,by conv=>lhs; cbv⟩
def sh287:GotS op287.m':=⟨_,by conv=>lhs; simp (config:={ maxSteps:=10000000 }) only [op287,toS,toO,zMI,zOp,binS]⟩
def en287:Ent Tryz.prog:=mc287.ent op287 sh287 (mc287.call2 (ms:=[.t 2]) Tryz.func287 (by kernel_rfl))
def mc288:Got (Tryz.f288.body.map (compile [0,1,2,3,5,7,8,9,10] Tryz.prog 19)):=.of (y:=PQ.made [0,1,2,3,5,7,8,9,10] pq 19 [] [] Tryz.f288.body) (by conv=>lhs; cbv) (by kernel_rfl)
def op288:GotO mc288.m:=⟨_,by conv=>lhs; cbv⟩
def sh288:GotS op288.m':=⟨_,by conv=>lhs; simp (config:={ maxSteps:=10000000 }) only [op288,toS,toO,zMI,zOp,binS]⟩
def en288:Ent Tryz.prog:=mc288.ent op288 sh288 (mc288.call2 (ms:=[.t 2]) Tryz.func288 (by kernel_rfl))
end
end Go.Proofs.YtiehnbbbhcaacaaGreatDoor.Ev
set_option linter.all false
set_option maxRecDepth 100000
set_option maxHeartbeats 4000000
namespace Go.Proofs.YtiehnbbbhcaacaaGreatDoor.Ev
open Go.AM
noncomputable section
def mc289:Got (Tryz.f289.body.map (compile [0,1,2,3,4,5,6,7,8,9,10,12,13,19,25,27] Tryz.prog 59)):=.of (y:=PQ.made [0,1,2,3,4,5,6,7,8,9,10,12,13,19,25,27] pq 59 [(14,false)] [] Tryz.f289.body) (by conv=>lhs; cbv) (by kernel_rfl)
def op289:GotO mc289.m:=⟨_,by conv=>lhs; cbv⟩
def sh289:GotS op289.m':=⟨_,by conv=>lhs; simp (config:={ maxSteps:=10000000 }) only [op289,toS,toO,zMI,zOp,binS]⟩
def en289:Ent Tryz.prog:=mc289.ent op289 sh289 (mc289.call2 (ms:=[.t 8]) Tryz.func289 (by kernel_rfl))
def mc290:Got (Tryz.f290.body.map (compile [0,1,4,5,7,8,9,16] Tryz.prog 19)):=.of (y:=PQ.made [0,1,4,5,7,8,9,16] pq 19 [] [] Tryz.f290.body) (by conv=>lhs; cbv) (by kernel_rfl)
def op290:GotO mc290.m:=⟨_,by conv=>lhs; cbv⟩
def sh290:GotS op290.m':=⟨_,by conv=>lhs; simp (config:={ maxSteps:=10000000 }) only [op290,toS,toO,zMI,zOp,binS]⟩
def en290:Ent Tryz.prog:=mc290.ent op290 sh290 (mc290.call2 (ms:=[.t 4]) Tryz.func290 (by kernel_rfl))
def mc291:Got (Tryz.f291.body.map (compile [0,1,2,4,5,6,7,10,14,15,16,17] Tryz.prog 31)):=.of (y:=PQ.made [0,1,2,4,5,6,7,10,14,15,16,17] pq 31 [(7,false)] [] Tryz.f291.body) (by conv=>lhs; cbv) (by kernel_rfl)
def op291:GotO mc291.m:=⟨_,by conv=>lhs; cbv⟩
def sh291:GotS op291.m':=⟨_,by conv=>lhs; simp (config:={ maxSteps:=10000000 }) only [op291,toS,toO,zMI,zOp,binS]⟩
def en291:Ent Tryz.prog:=mc291.ent op291 sh291 (mc291.call2 (ms:=[.t 4]) Tryz.func291 (by kernel_rfl))
def mc292:Got (Tryz.f292.body.map (compile [0,1,2,3,4,9,10,11,12,14,15,16,17,22,32,33,34,35,46] Tryz.prog 64)):=.of (y:=PQ.made [0,1,2,3,4,9,10,11,12,14,15,16,17,22,32,33,34,35,46] pq 64 [(7,false)] [] Tryz.f292.body) (by conv=>lhs; cbv) (by kernel_rfl)
def op292:GotO mc292.m:=⟨_,by conv=>lhs; cbv⟩
def sh292:GotS op292.m':=⟨_,by conv=>lhs; simp (config:={ maxSteps:=10000000 }) only [op292,toS,toO,zMI,zOp,binS]⟩
def en292:Ent Tryz.prog:=mc292.ent op292 sh292 (mc292.call2 (ms:=[]) Tryz.func292 (by kernel_rfl))
def mc293:Got (Tryz.f293.body.map (compile [0,1,2,9] Tryz.prog 19)):=.of (y:=PQ.made [0,1,2,9] pq 19 [(8,false)] [] Tryz.f293.body) (by conv=>lhs; cbv) (by kernel_rfl)
def op293:GotO mc293.m:=⟨_,by conv=>lhs; cbv⟩
def sh293:GotS op293.m':=⟨_,by conv=>lhs; simp (config:={ maxSteps:=10000000 }) only [op293,toS,toO,zMI,zOp,binS]⟩
def en293:Ent Tryz.prog:=mc293.ent op293 sh293 (mc293.call2 (ms:=[]) Tryz.func293 (by kernel_rfl))
def mc294:Got (Tryz.f294.body.map (compile [0,1,2,4,6,7,8,9,24,42,52,71,83,89,98] Tryz.prog 110)):=.of (y:=PQ.made [0,1,2,4,6,7,8,9,24,42,52,71,83,89,98] pq 110 [] [] Tryz.f294.body) (by conv=>lhs; cbv) (by kernel_rfl)
def op294:GotO mc294.m:=⟨_,by conv=>lhs; cbv⟩
def sh294:GotS op294.m':=⟨_,by conv=>lhs; simp (config:={ maxSteps:=10000000 }) only [op294,toS,toO,zMI,zOp,binS]⟩
def en294:Ent Tryz.prog:=mc294.ent op294 sh294 (mc294.call2 (ms:=[]) Tryz.func294 (by kernel_rfl))
def mc295:Got (Tryz.f295.body.map (compile [0,1,2,4,6,8,9,10,11,14,43,44,64,76,77,78,79] Tryz.prog 95)):=.of (y:=PQ.made [0,1,2,4,6,8,9,10,11,14,43,44,64,76,77,78,79] pq 95 [(11,false)] [] Tryz.f295.body) (by conv=>lhs; cbv) (by kernel_rfl)
def op295:GotO mc295.m:=⟨_,by conv=>lhs; cbv⟩
def sh295:GotS op295.m':=⟨_,by conv=>lhs; simp (config:={ maxSteps:=10000000 }) only [op295,toS,toO,zMI,zOp,binS]⟩
def en295:Ent Tryz.prog:=mc295.ent op295 sh295 (mc295.call2 (ms:=[]) Tryz.func295 (by kernel_rfl))
def mc297:Got (Tryz.f297.body.map (compile [0,2,3,4,5,12] Tryz.prog 18)):=.of (y:=PQ.made [0,2,3,4,5,12] pq 18 [] [] Tryz.f297.body) (by conv=>lhs; cbv) (by kernel_rfl)
def op297:GotO mc297.m:=⟨_,by conv=>lhs; cbv⟩
def sh297:GotS op297.m':=⟨_,by conv=>lhs; simp (config:={ maxSteps:=10000000 }) only [op297,toS,toO,zMI,zOp,binS]⟩
def en297:Ent Tryz.prog:=mc297.ent op297 sh297 (mc297.call2 (ms:=[.t 2,.t 3]) Tryz.func297 (by kernel_rfl))
def mc298:Got (Tryz.f298.body.map (compile [0] Tryz.prog 2)):=.of (y:=PQ.made [0] pq 2 [] [] Tryz.f298.body) (by conv=>lhs; cbv) (by kernel_rfl)
def op298:GotO mc298.m:=⟨_,by conv=>lhs; cbv⟩
def sh298:GotS op298.m':=⟨_,by conv=>lhs; simp (config:={ maxSteps:=10000000 }) only [op298,toS,toO,zMI,zOp,binS]⟩
def en298:Ent Tryz.prog:=mc298.ent op298 sh298 (mc298.call2 (ms:=[.t 0]) Tryz.func298 (by kernel_rfl))
def mc299:Got (Tryz.f299.body.map (compile [0,1,4] Tryz.prog 8)):=.of (y:=PQ.made [0,1,4] pq 8 [] [] Tryz.f299.body) (by conv=>lhs; cbv) (by kernel_rfl)
def op299:GotO mc299.m:=⟨_,by conv=>lhs; cbv⟩
def sh299:GotS op299.m':=⟨_,by conv=>lhs; simp (config:={ maxSteps:=10000000 }) only [op299,toS,toO,zMI,zOp,binS]⟩
def en299:Ent Tryz.prog:=mc299.ent op299 sh299 (mc299.call2 (ms:=[.t 4]) Tryz.func299 (by kernel_rfl))
def mc301:Got (Tryz.f301.body.map (compile [0,1,4,5,6,19,27,40] Tryz.prog 48)):=.of (y:=PQ.made [0,1,4,5,6,19,27,40] pq 48 [] [] Tryz.f301.body) (by conv=>lhs; cbv) (by kernel_rfl)
def op301:GotO mc301.m:=⟨_,by conv=>lhs; cbv⟩
def sh301:GotS op301.m':=⟨_,by conv=>lhs; simp (config:={ maxSteps:=10000000 }) only [op301,toS,toO,zMI,zOp,binS]⟩
def en301:Ent Tryz.prog:=mc301.ent op301 sh301 (mc301.call2 (ms:=[.cell true 5 4]) Tryz.func301 (by kernel_rfl))
def mc302:Got (Tryz.f302.body.map (compile [0,1,2] Tryz.prog 6)):=.of (y:=PQ.made [0,1,2] pq 6 [] [] Tryz.f302.body) (by conv=>lhs; cbv) (by kernel_rfl)
def op302:GotO mc302.m:=⟨_,by conv=>lhs; cbv⟩
def sh302:GotS op302.m':=⟨_,by conv=>lhs; simp (config:={ maxSteps:=10000000 }) only [op302,toS,toO,zMI,zOp,binS]⟩
def en302:Ent Tryz.prog:=mc302.ent op302 sh302 (mc302.call2 (ms:=[.cell true 7 2]) Tryz.func302 (by kernel_rfl))
end
end Go.Proofs.YtiehnbbbhcaacaaGreatDoor.Ev
set_option linter.all false
set_option maxRecDepth 100000
set_option maxHeartbeats 4000000
namespace Go.Proofs.YtiehnbbbhcaacaaGreatDoor.Ev
open Go.AM
noncomputable section
def mc303:Got (Tryz.f303.body.map (compile [0,1,4,5,10] Tryz.prog 20)):=.of (y:=PQ.made [0,1,4,5,10] pq 20 [(7,false)] [] Tryz.f303.body) (by conv=>lhs; cbv) (by kernel_rfl)
def op303:GotO mc303.m:=⟨_,by conv=>lhs; cbv⟩
def sh303:GotS op303.m':=⟨_,by conv=>lhs; simp (config:={ maxSteps:=10000000 }) only [op303,toS,toO,zMI,zOp,binS]⟩
def en303:Ent Tryz.prog:=mc303.ent op303 sh303 (mc303.call2 (ms:=[.cell true 7 4]) Tryz.func303 (by kernel_rfl))
def mc304:Got (Tryz.f304.body.map (compile [0,1,2] Tryz.prog 6)):=.of (y:=PQ.made [0,1,2] pq 6 [] [] Tryz.f304.body) (by conv=>lhs; cbv) (by kernel_rfl)
def op304:GotO mc304.m:=⟨_,by conv=>lhs; cbv⟩
def sh304:GotS op304.m':=⟨_,by conv=>lhs; simp (config:={ maxSteps:=10000000 }) only [op304,toS,toO,zMI,zOp,binS]⟩
def en304:Ent Tryz.prog:=mc304.ent op304 sh304 (mc304.call2 (ms:=[.cell true 7 2]) Tryz.func304 (by kernel_rfl))
def mc308:Got (Tryz.f308.body.map (compile [0,1,4,5,7,8,9,16] Tryz.prog 19)):=.of (y:=PQ.made [0,1,4,5,7,8,9,16] pq 19 [] [] Tryz.f308.body) (by conv=>lhs; cbv) (by kernel_rfl)
def op308:GotO mc308.m:=⟨_,by conv=>lhs; cbv⟩
def sh308:GotS op308.m':=⟨_,by conv=>lhs; simp (config:={ maxSteps:=10000000 }) only [op308,toS,toO,zMI,zOp,binS]⟩
def en308:Ent Tryz.prog:=mc308.ent op308 sh308 (mc308.call2 (ms:=[.t 4]) Tryz.func308 (by kernel_rfl))
def mc310:Got (Tryz.f310.body.map (compile [0,1,3] Tryz.prog 7)):=.of (y:=PQ.made [0,1,3] pq 7 [] [] Tryz.f310.body) (by conv=>lhs; cbv) (by kernel_rfl)
def op310:GotO mc310.m:=⟨_,by conv=>lhs; cbv⟩
def sh310:GotS op310.m':=⟨_,by conv=>lhs; simp (config:={ maxSteps:=10000000 }) only [op310,toS,toO,zMI,zOp,binS]⟩
def en310:Ent Tryz.prog:=mc310.ent op310 sh310 (mc310.call2 (ms:=[.t 3]) Tryz.func310 (by kernel_rfl))
def mc311:Got (Tryz.f311.body.map (compile [0,1,2] Tryz.prog 22)):=.of (y:=PQ.made [0,1,2] pq 22 [] [] Tryz.f311.body) (by conv=>lhs; cbv) (by kernel_rfl)
def op311:GotO mc311.m:=⟨_,by conv=>lhs; cbv⟩
def sh311:GotS op311.m':=⟨_,by conv=>lhs; simp (config:={ maxSteps:=10000000 }) only [op311,toS,toO,zMI,zOp,binS]⟩
def en311:Ent Tryz.prog:=mc311.ent op311 sh311 (mc311.call2 (ms:=[.t 2]) Tryz.func311 (by kernel_rfl))
def mc312:Got (Tryz.f312.body.map (compile [0,1,2,6,7,8,9,14,15,16,17,18,30] Tryz.prog 32)):=.of (y:=PQ.made [0,1,2,6,7,8,9,14,15,16,17,18,30] pq 32 [] [] Tryz.f312.body) (by conv=>lhs; cbv) (by kernel_rfl)
def op312:GotO mc312.m:=⟨_,by conv=>lhs; cbv⟩
def sh312:GotS op312.m':=⟨_,by conv=>lhs; simp (config:={ maxSteps:=10000000 }) only [op312,toS,toO,zMI,zOp,binS]⟩
def en312:Ent Tryz.prog:=mc312.ent op312 sh312 (mc312.call2 (ms:=[.t 6]) Tryz.func312 (by kernel_rfl))
def mc315:Got (Tryz.f315.body.map (compile [0,1,4,6,16] Tryz.prog 27)):=.of (y:=PQ.made [0,1,4,6,16] pq 27 [] [] Tryz.f315.body) (by conv=>lhs; cbv) (by kernel_rfl)
def op315:GotO mc315.m:=⟨_,by conv=>lhs; cbv⟩
def sh315:GotS op315.m':=⟨_,by conv=>lhs; simp (config:={ maxSteps:=10000000 }) only [op315,toS,toO,zMI,zOp,binS]⟩
def en315:Ent Tryz.prog:=mc315.ent op315 sh315 (mc315.call2 (ms:=[.t 4]) Tryz.func315 (by kernel_rfl))
def mc317:Got (Tryz.f317.body.map (compile [0,1,2,4] Tryz.prog 15)):=.of (y:=PQ.made [0,1,2,4] pq 15 [] [] Tryz.f317.body) (by conv=>lhs; cbv) (by kernel_rfl)
def op317:GotO mc317.m:=⟨_,by conv=>lhs; cbv⟩
def sh317:GotS op317.m':=⟨_,by conv=>lhs; simp (config:={ maxSteps:=10000000 }) only [op317,toS,toO,zMI,zOp,binS]⟩
def en317:Ent Tryz.prog:=mc317.ent op317 sh317 (mc317.call2 (ms:=[.t 4]) Tryz.func317 (by kernel_rfl))
def mc318:Got (Tryz.f318.body.map (compile [0,1,2] Tryz.prog 21)):=.of (y:=PQ.made [0,1,2] pq 21 [] [] Tryz.f318.body) (by conv=>lhs; cbv) (by kernel_rfl)
def op318:GotO mc318.m:=⟨_,by conv=>lhs; cbv⟩
def sh318:GotS op318.m':=⟨_,by conv=>lhs; simp (config:={ maxSteps:=10000000 }) only [op318,toS,toO,zMI,zOp,binS]⟩
def en318:Ent Tryz.prog:=mc318.ent op318 sh318 (mc318.call2 (ms:=[.t 2]) Tryz.func318 (by kernel_rfl))
def mc319:Got (Tryz.f319.body.map (compile [0,1,2,3,4,5,6,7,9,10,12,13,14,15,16,17,18,19,20,21,22,23,24,25,28,59,60,73,87,98,113,119,154,157,158,159,160,189] Tryz.prog 203)):=.of (y:=PQ.made [0,1,2,3,4,5,6,7,9,10,12,13,14,15,16,17,18,19,20,21,22,23,24,25,28,59,60,73,87,98,113,119,154,157,158,159,160,189] pq 203 [(16,false),(14,false),(10,false),(11,false),(10,true),(9,false),(10,false),(8,false),(8,false),(11,false)] [] Tryz.f319.body) (by conv=>lhs; cbv) (by kernel_rfl)
def op319:GotO mc319.m:=⟨_,by conv=>lhs; cbv⟩
def sh319:GotS op319.m':=⟨_,by conv=>lhs; simp (config:={ maxSteps:=10000000 }) only [op319,toS,toO,zMI,zOp,binS]⟩
def en319:Ent Tryz.prog:=mc319.ent op319 sh319 (mc319.call2 (ms:=[.cell true 11 12]) Tryz.func319 (by kernel_rfl))
def mc320:Got (Tryz.f320.body.map (compile [0,1,2,3,4,5,6,7,8,10,14] Tryz.prog 28)):=.of (y:=PQ.made [0,1,2,3,4,5,6,7,8,10,14] pq 28 [(8,false)] [] Tryz.f320.body) (by conv=>lhs; cbv) (by kernel_rfl)
def op320:GotO mc320.m:=⟨_,by conv=>lhs; cbv⟩
def sh320:GotS op320.m':=⟨_,by conv=>lhs; simp (config:={ maxSteps:=10000000 }) only [op320,toS,toO,zMI,zOp,binS]⟩
def en320:Ent Tryz.prog:=mc320.ent op320 sh320 (mc320.call2 (ms:=[.cell true 11 10]) Tryz.func320 (by kernel_rfl))
def mc321:Got (Tryz.f321.body.map (compile [0,1,2,3,4,5,7] Tryz.prog 18)):=.of (y:=PQ.made [0,1,2,3,4,5,7] pq 18 [(9,false)] [] Tryz.f321.body) (by conv=>lhs; cbv) (by kernel_rfl)
def op321:GotO mc321.m:=⟨_,by conv=>lhs; cbv⟩
def sh321:GotS op321.m':=⟨_,by conv=>lhs; simp (config:={ maxSteps:=10000000 }) only [op321,toS,toO,zMI,zOp,binS]⟩
def en321:Ent Tryz.prog:=mc321.ent op321 sh321 (mc321.call2 (ms:=[.cell true 11 7]) Tryz.func321 (by kernel_rfl))
end
end Go.Proofs.YtiehnbbbhcaacaaGreatDoor.Ev
set_option linter.all false
set_option maxRecDepth 100000
set_option maxHeartbeats 4000000
namespace Go.Proofs.YtiehnbbbhcaacaaGreatDoor.Ev
open Go.AM
noncomputable section
def mc322:Got (Tryz.f322.body.map (compile [0,1,3] Tryz.prog 7)):=.of (y:=PQ.made [0,1,3] pq 7 [] [] Tryz.f322.body) (by conv=>lhs; cbv) (by kernel_rfl)
def op322:GotO mc322.m:=⟨_,by conv=>lhs; cbv⟩
def sh322:GotS op322.m':=⟨_,by conv=>lhs; simp (config:={ maxSteps:=10000000 }) only [op322,toS,toO,zMI,zOp,binS]⟩
def en322:Ent Tryz.prog:=mc322.ent op322 sh322 (mc322.call2 (ms:=[.t 3]) Tryz.func322 (by kernel_rfl))
def mc323:Got (Tryz.f323.body.map (compile [0,1,2,3,5,8,9,10,11,20,24,52,58] Tryz.prog 91)):=.of (y:=PQ.made [0,1,2,3,5,8,9,10,11,20,24,52,58] pq 91 [(7,false),(13,false),(14,false),(10,false)] [] Tryz.f323.body) (by conv=>lhs; cbv) (by kernel_rfl)
def op323:GotO mc323.m:=⟨_,by conv=>lhs; cbv⟩
def sh323:GotS op323.m':=⟨_,by conv=>lhs; simp (config:={ maxSteps:=10000000 }) only [op323,toS,toO,zMI,zOp,binS]⟩
def en323:Ent Tryz.prog:=mc323.ent op323 sh323 (mc323.call2 (ms:=[.cell true 6 8,.t 9]) Tryz.func323 (by kernel_rfl))
def mc325:Got (Tryz.f325.body.map (compile [0,1,2,3,5,8,9,10,11,12,13,14,32,56,59,60,61,62,87,121] Tryz.prog 132)):=.of (y:=PQ.made [0,1,2,3,5,8,9,10,11,12,13,14,32,56,59,60,61,62,87,121] pq 132 [(15,false),(9,false),(13,false),(20,false),(7,false)] [] Tryz.f325.body) (by conv=>lhs; cbv) (by kernel_rfl)
def op325:GotO mc325.m:=⟨_,by conv=>lhs; cbv⟩
def sh325:GotS op325.m':=⟨_,by conv=>lhs; simp (config:={ maxSteps:=10000000 }) only [op325,toS,toO,zMI,zOp,binS]⟩
def en325:Ent Tryz.prog:=mc325.ent op325 sh325 (mc325.call2 (ms:=[.cell true 6 8,.t 9]) Tryz.func325 (by kernel_rfl))
def mc326:Got (Tryz.f326.body.map (compile [1,2,4,6,7,38] Tryz.prog 46)):=.of (y:=PQ.made [1,2,4,6,7,38] pq 46 [] [] Tryz.f326.body) (by conv=>lhs; cbv) (by kernel_rfl)
def op326:GotO mc326.m:=⟨_,by conv=>lhs; cbv⟩
def sh326:GotS op326.m':=⟨_,by conv=>lhs; simp (config:={ maxSteps:=10000000 }) only [op326,toS,toO,zMI,zOp,binS]⟩
def en326:Ent Tryz.prog:=mc326.ent op326 sh326 (mc326.call2 (ms:=[.cell true 4 6,.t 7]) Tryz.func326 (by kernel_rfl))
def mc327:Got (Tryz.f327.body.map (compile [0,1,2,3,5,6] Tryz.prog 11)):=.of (y:=PQ.made [0,1,2,3,5,6] pq 11 [] [] Tryz.f327.body) (by conv=>lhs; cbv) (by kernel_rfl)
def op327:GotO mc327.m:=⟨_,by conv=>lhs; cbv⟩
def sh327:GotS op327.m':=⟨_,by conv=>lhs; simp (config:={ maxSteps:=10000000 }) only [op327,toS,toO,zMI,zOp,binS]⟩
def en327:Ent Tryz.prog:=mc327.ent op327 sh327 (mc327.call2 (ms:=[.t 6]) Tryz.func327 (by kernel_rfl))
def mc328:Got (Tryz.f328.body.map (compile [0,2,3,4,6,12] Tryz.prog 13)):=.of (y:=PQ.made [0,2,3,4,6,12] pq 13 [] [] Tryz.f328.body) (by conv=>lhs; cbv) (by kernel_rfl)
def op328:GotO mc328.m:=⟨_,by conv=>lhs; cbv⟩
def sh328:GotS op328.m':=⟨_,by conv=>lhs; simp (config:={ maxSteps:=10000000 }) only [op328,toS,toO,zMI,zOp,binS]⟩
def en328:Ent Tryz.prog:=mc328.ent op328 sh328 (mc328.call2 (ms:=[.t 2]) Tryz.func328 (by kernel_rfl))
def mc329:Got (Tryz.f329.body.map (compile [0,1,2,3,7,8,9,11,12,13,14,19,27,28,29,30] Tryz.prog 42)):=.of (y:=PQ.made [0,1,2,3,7,8,9,11,12,13,14,19,27,28,29,30] pq 42 [(6,false)] [] Tryz.f329.body) (by conv=>lhs; cbv) (by kernel_rfl)
def op329:GotO mc329.m:=⟨_,by conv=>lhs; cbv⟩
def sh329:GotS op329.m':=⟨_,by conv=>lhs; simp (config:={ maxSteps:=10000000 }) only [op329,toS,toO,zMI,zOp,binS]⟩
def en329:Ent Tryz.prog:=mc329.ent op329 sh329 (mc329.call2 (ms:=[]) Tryz.func329 (by kernel_rfl))
def mc330:Got (Tryz.f330.body.map (compile [0,2,3,9] Tryz.prog 12)):=.of (y:=PQ.made [0,2,3,9] pq 12 [] [] Tryz.f330.body) (by conv=>lhs; cbv) (by kernel_rfl)
def op330:GotO mc330.m:=⟨_,by conv=>lhs; cbv⟩
def sh330:GotS op330.m':=⟨_,by conv=>lhs; simp (config:={ maxSteps:=10000000 }) only [op330,toS,toO,zMI,zOp,binS]⟩
def en330:Ent Tryz.prog:=mc330.ent op330 sh330 (mc330.call2 (ms:=[]) Tryz.func330 (by kernel_rfl))
def mc332:Got (Tryz.f332.body.map (compile [0,1,2] Tryz.prog 4)):=.of (y:=PQ.made [0,1,2] pq 4 [] [] Tryz.f332.body) (by conv=>lhs; cbv) (by kernel_rfl)
def op332:GotO mc332.m:=⟨_,by conv=>lhs; cbv⟩
def sh332:GotS op332.m':=⟨_,by conv=>lhs; simp (config:={ maxSteps:=10000000 }) only [op332,toS,toO,zMI,zOp,binS]⟩
def en332:Ent Tryz.prog:=mc332.ent op332 sh332 (mc332.call2 (ms:=[.t 2]) Tryz.func332 (by kernel_rfl))
def mc333:Got (Tryz.f333.body.map (compile [0,2] Tryz.prog 11)):=.of (y:=PQ.made [0,2] pq 11 [] [] Tryz.f333.body) (by conv=>lhs; cbv) (by kernel_rfl)
def op333:GotO mc333.m:=⟨_,by conv=>lhs; cbv⟩
def sh333:GotS op333.m':=⟨_,by conv=>lhs; simp (config:={ maxSteps:=10000000 }) only [op333,toS,toO,zMI,zOp,binS]⟩
def en333:Ent Tryz.prog:=mc333.ent op333 sh333 (mc333.call2 (ms:=[]) Tryz.func333 (by kernel_rfl))
def mc334:Got (Tryz.f334.body.map (compile [0,1,4,5,7,8,9,16] Tryz.prog 19)):=.of (y:=PQ.made [0,1,4,5,7,8,9,16] pq 19 [] [] Tryz.f334.body) (by conv=>lhs; cbv) (by kernel_rfl)
def op334:GotO mc334.m:=⟨_,by conv=>lhs; cbv⟩
def sh334:GotS op334.m':=⟨_,by conv=>lhs; simp (config:={ maxSteps:=10000000 }) only [op334,toS,toO,zMI,zOp,binS]⟩
def en334:Ent Tryz.prog:=mc334.ent op334 sh334 (mc334.call2 (ms:=[.t 4]) Tryz.func334 (by kernel_rfl))
def mc335:Got (Tryz.f335.body.map (compile [0,1,2,3,4,5,17,18,23,29,35,40,46] Tryz.prog 60)):=.of (y:=PQ.made [0,1,2,3,4,5,17,18,23,29,35,40,46] pq 60 [(12,false)] [] Tryz.f335.body) (by conv=>lhs; cbv) (by kernel_rfl)
def op335:GotO mc335.m:=⟨_,by conv=>lhs; cbv⟩
def sh335:GotS op335.m':=⟨_,by conv=>lhs; simp (config:={ maxSteps:=10000000 }) only [op335,toS,toO,zMI,zOp,binS]⟩
def en335:Ent Tryz.prog:=mc335.ent op335 sh335 (mc335.call2 (ms:=[.t 2]) Tryz.func335 (by kernel_rfl))
end
end Go.Proofs.YtiehnbbbhcaacaaGreatDoor.Ev
set_option linter.all false
set_option maxRecDepth 100000
set_option maxHeartbeats 4000000
namespace Go.Proofs.YtiehnbbbhcaacaaGreatDoor.Ev
open Go.AM
noncomputable section
def mc336:Got (Tryz.f336.body.map (compile [0,1,4] Tryz.prog 9)):=.of (y:=PQ.made [0,1,4] pq 9 [] [] Tryz.f336.body) (by conv=>lhs; cbv) (by kernel_rfl)
def op336:GotO mc336.m:=⟨_,by conv=>lhs; cbv⟩
def sh336:GotS op336.m':=⟨_,by conv=>lhs; simp (config:={ maxSteps:=10000000 }) only [op336,toS,toO,zMI,zOp,binS]⟩
def en336:Ent Tryz.prog:=mc336.ent op336 sh336 (mc336.call2 (ms:=[.t 4]) Tryz.func336 (by kernel_rfl))
def mc337:Got (Tryz.f337.body.map (compile [0,1,2] Tryz.prog 6)):=.of (y:=PQ.made [0,1,2] pq 6 [] [] Tryz.f337.body) (by conv=>lhs; cbv) (by kernel_rfl)
def op337:GotO mc337.m:=⟨_,by conv=>lhs; cbv⟩
def sh337:GotS op337.m':=⟨_,by conv=>lhs; simp (config:={ maxSteps:=10000000 }) only [op337,toS,toO,zMI,zOp,binS]⟩
def en337:Ent Tryz.prog:=mc337.ent op337 sh337 (mc337.call2 (ms:=[.t 2]) Tryz.func337 (by kernel_rfl))
def mc340:Got (Tryz.f340.body.map (compile [0,1,2,3,4,5] Tryz.prog 12)):=.of (y:=PQ.made [0,1,2,3,4,5] pq 12 [] [] Tryz.f340.body) (by conv=>lhs; cbv) (by kernel_rfl)
def op340:GotO mc340.m:=⟨_,by conv=>lhs; cbv⟩
def sh340:GotS op340.m':=⟨_,by conv=>lhs; simp (config:={ maxSteps:=10000000 }) only [op340,toS,toO,zMI,zOp,binS]⟩
def en340:Ent Tryz.prog:=mc340.ent op340 sh340 (mc340.call2 (ms:=[.t 5]) Tryz.func340 (by kernel_rfl))
def mc341:Got (Tryz.f341.body.map (compile [0,1,2] Tryz.prog 11)):=.of (y:=PQ.made [0,1,2] pq 11 [] [] Tryz.f341.body) (by conv=>lhs; cbv) (by kernel_rfl)
def op341:GotO mc341.m:=⟨_,by conv=>lhs; cbv⟩
def sh341:GotS op341.m':=⟨_,by conv=>lhs; simp (config:={ maxSteps:=10000000 }) only [op341,toS,toO,zMI,zOp,binS]⟩
def en341:Ent Tryz.prog:=mc341.ent op341 sh341 (mc341.call2 (ms:=[.t 2]) Tryz.func341 (by kernel_rfl))
def mc342:Got (Tryz.f342.body.map (compile [0,1,2,3,6,16] Tryz.prog 20)):=.of (y:=PQ.made [0,1,2,3,6,16] pq 20 [] [] Tryz.f342.body) (by conv=>lhs; cbv) (by kernel_rfl)
def op342:GotO mc342.m:=⟨_,by conv=>lhs; cbv⟩
def sh342:GotS op342.m':=⟨_,by conv=>lhs; simp (config:={ maxSteps:=10000000 }) only [op342,toS,toO,zMI,zOp,binS]⟩
def en342:Ent Tryz.prog:=mc342.ent op342 sh342 (mc342.call2 (ms:=[.t 6]) Tryz.func342 (by kernel_rfl))
def mc345:Got (Tryz.f345.body.map (compile [0,2,3,4,5,6,8,9,10,30,39,44,47,48,49,50,56,66] Tryz.prog 77)):=.of (y:=PQ.made [0,2,3,4,5,6,8,9,10,30,39,44,47,48,49,50,56,66] pq 77 [] [] Tryz.f345.body) (by conv=>lhs; cbv) (by kernel_rfl)
def op345:GotO mc345.m:=⟨_,by conv=>lhs; cbv⟩
def sh345:GotS op345.m':=⟨_,by conv=>lhs; simp (config:={ maxSteps:=10000000 }) only [op345,toS,toO,zMI,zOp,binS]⟩
def en345:Ent Tryz.prog:=mc345.ent op345 sh345 (mc345.call2 (ms:=[.t 2,.t 3]) Tryz.func345 (by kernel_rfl))
def mc347:Got (Tryz.f347.body.map (compile [0,1,4] Tryz.prog 18)):=.of (y:=PQ.made [0,1,4] pq 18 [] [] Tryz.f347.body) (by conv=>lhs; cbv) (by kernel_rfl)
def op347:GotO mc347.m:=⟨_,by conv=>lhs; cbv⟩
def sh347:GotS op347.m':=⟨_,by conv=>lhs; simp (config:={ maxSteps:=10000000 }) only [op347,toS,toO,zMI,zOp,binS]⟩
def en347:Ent Tryz.prog:=mc347.ent op347 sh347 (mc347.call2 (ms:=[.t 4]) Tryz.func347 (by kernel_rfl))
def mc348:Got (Tryz.f348.body.map (compile [0,1,4,5,7,8,11,12,13,14,19,31,48] Tryz.prog 55)):=.of (y:=PQ.made [0,1,4,5,7,8,11,12,13,14,19,31,48] pq 55 [(7,false)] [] Tryz.f348.body) (by conv=>lhs; cbv) (by kernel_rfl)
def op348:GotO mc348.m:=⟨_,by conv=>lhs; cbv⟩
def sh348:GotS op348.m':=⟨_,by conv=>lhs; simp (config:={ maxSteps:=10000000 }) only [op348,toS,toO,zMI,zOp,binS]⟩
def en348:Ent Tryz.prog:=mc348.ent op348 sh348 (mc348.call2 (ms:=[.cell true 7 4]) Tryz.func348 (by kernel_rfl))
def mc349:Got (Tryz.f349.body.map (compile [0,2] Tryz.prog 33)):=.of (y:=PQ.made [0,2] pq 33 [] [] Tryz.f349.body) (by conv=>lhs; cbv) (by kernel_rfl)
def op349:GotO mc349.m:=⟨_,by conv=>lhs; cbv⟩
def sh349:GotS op349.m':=⟨_,by conv=>lhs; simp (config:={ maxSteps:=10000000 }) only [op349,toS,toO,zMI,zOp,binS]⟩
def en349:Ent Tryz.prog:=mc349.ent op349 sh349 (mc349.call2 (ms:=[.t 2]) Tryz.func349 (by kernel_rfl))
def mc350:Got (Tryz.f350.body.map (compile [0,1,4,5,6,15,22,29,34,38,45,52] Tryz.prog 67)):=.of (y:=PQ.made [0,1,4,5,6,15,22,29,34,38,45,52] pq 67 [(4,false),(4,false),(4,false),(4,false),(4,false)] [] Tryz.f350.body) (by conv=>lhs; cbv) (by kernel_rfl)
def op350:GotO mc350.m:=⟨_,by conv=>lhs; cbv⟩
def sh350:GotS op350.m':=⟨_,by conv=>lhs; simp (config:={ maxSteps:=10000000 }) only [op350,toS,toO,zMI,zOp,binS]⟩
def en350:Ent Tryz.prog:=mc350.ent op350 sh350 (mc350.call2 (ms:=[.cell true 7 4]) Tryz.func350 (by kernel_rfl))
def mc352:Got (Tryz.f352.body.map (compile [0,1,4] Tryz.prog 9)):=.of (y:=PQ.made [0,1,4] pq 9 [] [] Tryz.f352.body) (by conv=>lhs; cbv) (by kernel_rfl)
def op352:GotO mc352.m:=⟨_,by conv=>lhs; cbv⟩
def sh352:GotS op352.m':=⟨_,by conv=>lhs; simp (config:={ maxSteps:=10000000 }) only [op352,toS,toO,zMI,zOp,binS]⟩
def en352:Ent Tryz.prog:=mc352.ent op352 sh352 (mc352.call2 (ms:=[.t 4]) Tryz.func352 (by kernel_rfl))
def mc353:Got (Tryz.f353.body.map (compile [0,1,2,3,4,5,8] Tryz.prog 16)):=.of (y:=PQ.made [0,1,2,3,4,5,8] pq 16 [] [] Tryz.f353.body) (by conv=>lhs; cbv) (by kernel_rfl)
def op353:GotO mc353.m:=⟨_,by conv=>lhs; cbv⟩
def sh353:GotS op353.m':=⟨_,by conv=>lhs; simp (config:={ maxSteps:=10000000 }) only [op353,toS,toO,zMI,zOp,binS]⟩
def en353:Ent Tryz.prog:=mc353.ent op353 sh353 (mc353.call2 (ms:=[.cell true 11 8]) Tryz.func353 (by kernel_rfl))
end
end Go.Proofs.YtiehnbbbhcaacaaGreatDoor.Ev
set_option linter.all false
set_option maxRecDepth 100000
set_option maxHeartbeats 4000000
namespace Go.Proofs.YtiehnbbbhcaacaaGreatDoor.Ev
open Go.AM
noncomputable section
def mc354:Got (Tryz.f354.body.map (compile [0,1] Tryz.prog 6)):=.of (y:=PQ.made [0,1] pq 6 [] [] Tryz.f354.body) (by conv=>lhs; cbv) (by kernel_rfl)
def op354:GotO mc354.m:=⟨_,by conv=>lhs; cbv⟩
def sh354:GotS op354.m':=⟨_,by conv=>lhs; simp (config:={ maxSteps:=10000000 }) only [op354,toS,toO,zMI,zOp,binS]⟩
def en354:Ent Tryz.prog:=mc354.ent op354 sh354 (mc354.call2 (ms:=[.cell true 11 1]) Tryz.func354 (by kernel_rfl))
def mc359:Got (Tryz.f359.body.map (compile [0,1,2,3,8,9,10,11,12,13,14,15,16,17,18,23,29,35,50,68,72,87,113] Tryz.prog 134)):=.of (y:=PQ.made [0,1,2,3,8,9,10,11,12,13,14,15,16,17,18,23,29,35,50,68,72,87,113] pq 134 [(12,false)] [] Tryz.f359.body) (by conv=>lhs; cbv) (by kernel_rfl)
def op359:GotO mc359.m:=⟨_,by conv=>lhs; cbv⟩
def sh359:GotS op359.m':=⟨_,by conv=>lhs; simp (config:={ maxSteps:=10000000 }) only [op359,toS,toO,zMI,zOp,binS]⟩
def en359:Ent Tryz.prog:=mc359.ent op359 sh359 (mc359.call2 (ms:=[]) Tryz.func359 (by kernel_rfl))
def mc360:Got (Tryz.f360.body.map (compile [0,2] Tryz.prog 8)):=.of (y:=PQ.made [0,2] pq 8 [] [] Tryz.f360.body) (by conv=>lhs; cbv) (by kernel_rfl)
def op360:GotO mc360.m:=⟨_,by conv=>lhs; cbv⟩
def sh360:GotS op360.m':=⟨_,by conv=>lhs; simp (config:={ maxSteps:=10000000 }) only [op360,toS,toO,zMI,zOp,binS]⟩
def en360:Ent Tryz.prog:=mc360.ent op360 sh360 (mc360.call2 (ms:=[.t 2]) Tryz.func360 (by kernel_rfl))
def mc361:Got (Tryz.f361.body.map (compile [0,1,4,5,7,8,9,16] Tryz.prog 19)):=.of (y:=PQ.made [0,1,4,5,7,8,9,16] pq 19 [] [] Tryz.f361.body) (by conv=>lhs; cbv) (by kernel_rfl)
def op361:GotO mc361.m:=⟨_,by conv=>lhs; cbv⟩
def sh361:GotS op361.m':=⟨_,by conv=>lhs; simp (config:={ maxSteps:=10000000 }) only [op361,toS,toO,zMI,zOp,binS]⟩
def en361:Ent Tryz.prog:=mc361.ent op361 sh361 (mc361.call2 (ms:=[.t 4]) Tryz.func361 (by kernel_rfl))
def mc371:Got (Tryz.f371.body.map (compile [0,1,4,5,6,19,27,40] Tryz.prog 48)):=.of (y:=PQ.made [0,1,4,5,6,19,27,40] pq 48 [] [] Tryz.f371.body) (by conv=>lhs; cbv) (by kernel_rfl)
def op371:GotO mc371.m:=⟨_,by conv=>lhs; cbv⟩
def sh371:GotS op371.m':=⟨_,by conv=>lhs; simp (config:={ maxSteps:=10000000 }) only [op371,toS,toO,zMI,zOp,binS]⟩
def en371:Ent Tryz.prog:=mc371.ent op371 sh371 (mc371.call2 (ms:=[.cell true 7 4]) Tryz.func371 (by kernel_rfl))
def mc372:Got (Tryz.f372.body.map (compile [0,1,4,5,7,8,9,16] Tryz.prog 19)):=.of (y:=PQ.made [0,1,4,5,7,8,9,16] pq 19 [] [] Tryz.f372.body) (by conv=>lhs; cbv) (by kernel_rfl)
def op372:GotO mc372.m:=⟨_,by conv=>lhs; cbv⟩
def sh372:GotS op372.m':=⟨_,by conv=>lhs; simp (config:={ maxSteps:=10000000 }) only [op372,toS,toO,zMI,zOp,binS]⟩
def en372:Ent Tryz.prog:=mc372.ent op372 sh372 (mc372.call2 (ms:=[.t 4]) Tryz.func372 (by kernel_rfl))
def mc373:Got (Tryz.f373.body.map (compile [0,1,2,6,7,12,30] Tryz.prog 49)):=.of (y:=PQ.made [0,1,2,6,7,12,30] pq 49 [(13,false),(16,true)] [] Tryz.f373.body) (by conv=>lhs; cbv) (by kernel_rfl)
def op373:GotO mc373.m:=⟨_,by conv=>lhs; cbv⟩
def sh373:GotS op373.m':=⟨_,by conv=>lhs; simp (config:={ maxSteps:=10000000 }) only [op373,toS,toO,zMI,zOp,binS]⟩
def en373:Ent Tryz.prog:=mc373.ent op373 sh373 (mc373.call2 (ms:=[]) Tryz.func373 (by kernel_rfl))
def mc383:Got (Tryz.f383.body.map (compile [0,2,4,8,14] Tryz.prog 25)):=.of (y:=PQ.made [0,2,4,8,14] pq 25 [] [] Tryz.f383.body) (by conv=>lhs; cbv) (by kernel_rfl)
def op383:GotO mc383.m:=⟨_,by conv=>lhs; cbv⟩
def sh383:GotS op383.m':=⟨_,by conv=>lhs; simp (config:={ maxSteps:=10000000 }) only [op383,toS,toO,zMI,zOp,binS]⟩
def en383:Ent Tryz.prog:=mc383.ent op383 sh383 (mc383.call2 (ms:=[.t 2]) Tryz.func383 (by kernel_rfl))
end
end Go.Proofs.YtiehnbbbhcaacaaGreatDoor.Ev
namespace Go.Proofs.YtiehnbbbhcaacaaGreatDoor.Ev
open Go.AM
noncomputable def tt:TT Tryz.prog:=.node 184 (.node 89 (.node 47 (.node 25 (.node 16 (.node 12 (.node 10 (.node 7 (.leaf en6) (.leaf en7)) (.node 11 (.leaf en10) (.leaf en11))) (.node 14 (.node 13 (.leaf en12) (.leaf en13)) (.node 15 (.leaf en14) (.leaf en15)))) (.node 20 (.node 18 (.node 17 (.leaf en16) (.leaf en17)) (.node 19 (.leaf en18) (.leaf en19))) (.node 22 (.node 21 (.leaf en20) (.leaf en21)) (.node 23 (.leaf en22) (.node 24 (.leaf en23) (.leaf en24)))))) (.node 33 (.node 29 (.node 27 (.node 26 (.leaf en25) (.leaf en26)) (.node 28 (.leaf en27) (.leaf en28))) (.node 31 (.node 30 (.leaf en29) (.leaf en30)) (.node 32 (.leaf en31) (.leaf en32)))) (.node 41 (.node 36 (.node 34 (.leaf en33) (.leaf en34)) (.node 40 (.leaf en36) (.leaf en40))) (.node 43 (.node 42 (.leaf en41) (.leaf en42)) (.node 45 (.leaf en43) (.node 46 (.leaf en45) (.leaf en46))))))) (.node 65 (.node 55 (.node 51 (.node 49 (.node 48 (.leaf en47) (.leaf en48)) (.node 50 (.leaf en49) (.leaf en50))) (.node 53 (.node 52 (.leaf en51) (.leaf en52)) (.node 54 (.leaf en53) (.leaf en54)))) (.node 60 (.node 57 (.node 56 (.leaf en55) (.leaf en56)) (.node 59 (.leaf en57) (.leaf en59))) (.node 62 (.node 61 (.leaf en60) (.leaf en61)) (.node 63 (.leaf en62) (.node 64 (.leaf en63) (.leaf en64)))))) (.node 74 (.node 70 (.node 68 (.node 67 (.leaf en65) (.leaf en67)) (.node 69 (.leaf en68) (.leaf en69))) (.node 72 (.node 71 (.leaf en70) (.leaf en71)) (.node 73 (.leaf en72) (.leaf en73)))) (.node 83 (.node 80 (.node 77 (.leaf en74) (.leaf en77)) (.node 81 (.leaf en80) (.leaf en81))) (.node 86 (.node 84 (.leaf en83) (.leaf en84)) (.node 87 (.leaf en86) (.node 88 (.leaf en87) (.leaf en88)))))))) (.node 130 (.node 107 (.node 98 (.node 93 (.node 91 (.node 90 (.leaf en89) (.leaf en90)) (.node 92 (.leaf en91) (.leaf en92))) (.node 95 (.node 94 (.leaf en93) (.leaf en94)) (.node 97 (.leaf en95) (.leaf en97)))) (.node 102 (.node 100 (.node 99 (.leaf en98) (.leaf en99)) (.node 101 (.leaf en100) (.leaf en101))) (.node 104 (.node 103 (.leaf en102) (.leaf en103)) (.node 105 (.leaf en104) (.node 106 (.leaf en105) (.leaf en106)))))) (.node 116 (.node 111 (.node 109 (.node 108 (.leaf en107) (.leaf en108)) (.node 110 (.leaf en109) (.leaf en110))) (.node 113 (.node 112 (.leaf en111) (.leaf en112)) (.node 115 (.leaf en113) (.leaf en115)))) (.node 122 (.node 118 (.node 117 (.leaf en116) (.leaf en117)) (.node 120 (.leaf en118) (.leaf en120))) (.node 124 (.node 123 (.leaf en122) (.leaf en123)) (.node 125 (.leaf en124) (.node 129 (.leaf en125) (.leaf en129))))))) (.node 163 (.node 143 (.node 134 (.node 132 (.node 131 (.leaf en130) (.leaf en131)) (.node 133 (.leaf en132) (.leaf en133))) (.node 141 (.node 138 (.leaf en134) (.leaf en138)) (.node 142 (.leaf en141) (.leaf en142)))) (.node 158 (.node 153 (.node 151 (.leaf en143) (.leaf en151)) (.node 154 (.leaf en153) (.leaf en154))) (.node 160 (.node 159 (.leaf en158) (.leaf en159)) (.node 161 (.leaf en160) (.node 162 (.leaf en161) (.leaf en162)))))) (.node 174 (.node 170 (.node 168 (.node 167 (.leaf en163) (.leaf en167)) (.node 169 (.leaf en168) (.leaf en169))) (.node 172 (.node 171 (.leaf en170) (.leaf en171)) (.node 173 (.leaf en172) (.leaf en173)))) (.node 178 (.node 176 (.node 175 (.leaf en174) (.leaf en175)) (.node 177 (.leaf en176) (.leaf en177))) (.node 181 (.node 179 (.leaf en178) (.leaf en179)) (.node 182 (.leaf en181) (.node 183 (.leaf en182) (.leaf en183))))))))) (.node 276 (.node 224 (.node 201 (.node 192 (.node 188 (.node 186 (.node 185 (.leaf en184) (.leaf en185)) (.node 187 (.leaf en186) (.leaf en187))) (.node 190 (.node 189 (.leaf en188) (.leaf en189)) (.node 191 (.leaf en190) (.leaf en191)))) (.node 196 (.node 194 (.node 193 (.leaf en192) (.leaf en193)) (.node 195 (.leaf en194) (.leaf en195))) (.node 198 (.node 197 (.leaf en196) (.leaf en197)) (.node 199 (.leaf en198) (.node 200 (.leaf en199) (.leaf en200)))))) (.node 212 (.node 205 (.node 203 (.node 202 (.leaf en201) (.leaf en202)) (.node 204 (.leaf en203) (.leaf en204))) (.node 209 (.node 207 (.leaf en205) (.leaf en207)) (.node 211 (.leaf en209) (.leaf en211)))) (.node 217 (.node 214 (.node 213 (.leaf en212) (.leaf en213)) (.node 215 (.leaf en214) (.leaf en215))) (.node 220 (.node 219 (.leaf en217) (.leaf en219)) (.node 221 (.leaf en220) (.node 222 (.leaf en221) (.leaf en222))))))) (.node 254 (.node 243 (.node 236 (.node 234 (.node 225 (.leaf en224) (.leaf en225)) (.node 235 (.leaf en234) (.leaf en235))) (.node 240 (.node 237 (.leaf en236) (.leaf en237)) (.node 242 (.leaf en240) (.leaf en242)))) (.node 247 (.node 245 (.node 244 (.leaf en243) (.leaf en244)) (.node 246 (.leaf en245) (.leaf en246))) (.node 250 (.node 249 (.leaf en247) (.leaf en249)) (.node 251 (.leaf en250) (.node 252 (.leaf en251) (.leaf en252)))))) (.node 265 (.node 261 (.node 256 (.node 255 (.leaf en254) (.leaf en255)) (.node 259 (.leaf en256) (.leaf en259))) (.node 263 (.node 262 (.leaf en261) (.leaf en262)) (.node 264 (.leaf en263) (.leaf en264)))) (.node 270 (.node 268 (.node 267 (.leaf en265) (.leaf en267)) (.node 269 (.leaf en268) (.leaf en269))) (.node 272 (.node 271 (.leaf en270) (.leaf en271)) (.node 274 (.leaf en272) (.node 275 (.leaf en274) (.leaf en275)))))))) (.node 320 (.node 294 (.node 285 (.node 280 (.node 278 (.node 277 (.leaf en276) (.leaf en277)) (.node 279 (.leaf en278) (.leaf en279))) (.node 282 (.node 281 (.leaf en280) (.leaf en281)) (.node 284 (.leaf en282) (.leaf en284)))) (.node 289 (.node 287 (.node 286 (.leaf en285) (.leaf en286)) (.node 288 (.leaf en287) (.leaf en288))) (.node 291 (.node 290 (.leaf en289) (.leaf en290)) (.node 292 (.leaf en291) (.node 293 (.leaf en292) (.leaf en293)))))) (.node 304 (.node 299 (.node 297 (.node 295 (.leaf en294) (.leaf en295)) (.node 298 (.leaf en297) (.leaf en298))) (.node 302 (.node 301 (.leaf en299) (.leaf en301)) (.node 303 (.leaf en302) (.leaf en303)))) (.node 312 (.node 310 (.node 308 (.leaf en304) (.leaf en308)) (.node 311 (.leaf en310) (.leaf en311))) (.node 317 (.node 315 (.leaf en312) (.leaf en315)) (.node 318 (.leaf en317) (.node 319 (.leaf en318) (.leaf en319))))))) (.node 341 (.node 329 (.node 325 (.node 322 (.node 321 (.leaf en320) (.leaf en321)) (.node 323 (.leaf en322) (.leaf en323))) (.node 327 (.node 326 (.leaf en325) (.leaf en326)) (.node 328 (.leaf en327) (.leaf en328)))) (.node 334 (.node 332 (.node 330 (.leaf en329) (.leaf en330)) (.node 333 (.leaf en332) (.leaf en333))) (.node 336 (.node 335 (.leaf en334) (.leaf en335)) (.node 337 (.leaf en336) (.node 340 (.leaf en337) (.leaf en340)))))) (.node 353 (.node 348 (.node 345 (.node 342 (.leaf en341) (.leaf en342)) (.node 347 (.leaf en345) (.leaf en347))) (.node 350 (.node 349 (.leaf en348) (.leaf en349)) (.node 352 (.leaf en350) (.leaf en352)))) (.node 361 (.node 359 (.node 354 (.leaf en353) (.leaf en354)) (.node 360 (.leaf en359) (.leaf en360))) (.node 372 (.node 371 (.leaf en361) (.leaf en371)) (.node 373 (.leaf en372) (.node 383 (.leaf en373) (.leaf en383)))))))))
end Go.Proofs.YtiehnbbbhcaacaaGreatDoor.Ev