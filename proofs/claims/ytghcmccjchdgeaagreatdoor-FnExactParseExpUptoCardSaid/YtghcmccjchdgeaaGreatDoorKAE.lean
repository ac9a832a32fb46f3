/- Texts QdB QdC QdA QdD QdE QdF, merged. -/
import Derived.Test.YtghcmccjchdgeaaGreatDoorKAD
import Derived.Test.YtghcmccjchdgeaaGreatDoorChecked
import Derived.KernelRfl
/- THE SMALL CODES of functions 3 9 10 11 12 32 33 34 35 36 37 66 67 68 69 113 171, and their ties to the program (printed by wip/tools/mkties2.py). -/
set_option linter.all false
namespace Go.Proofs.YtghcmccjchdgeaaGreatDoor.Mc
open Go.AM
def zl3_0:List AV:=[.p (.i .i64 0),.p (.s []),.p (.i .i64 0),.p (.s []),.p (.i .i64 0),.p (.nl),.p (.nl)]
/- laws.FnExactParseExp -/
def lv3:List Nat:=[0,2,3,4,5,6,7,8,9,10,13,33,41,44,59,64,67]
def mc3:MC :=
.seq (.reg [
 iL 2 (.mv (.c (.p (.b false))))]) (
 .seq (.seq (.reg [
 iT 11 (.mv (.l 0)),iT 12 (.len true (.t 11)),iL 13 (.bin .gtr (.t 12) (cI 1048576))]) (
 .cond (.l 13) (
 .seq (.reg [
 iL 2 (.mv (.c (.p (.b true))))]) (
 .ret)) (
 .skip))) (
 .seq (.reg [
 iT 15 (.mv (.l 0)),iT 16 (.call 7 [.t 15]),iT 14 (.mv (.t 16)),iT 17 (.ext (.t 14) 0),iT 18 (.ext (.t 14) 1),iL 3 (.alloc zl3_0),iL 4 (.alloc [.p (.i .i64 0),.p (.i .i64 0)]),iN (.sto 7 (.l 3) (.t 17)),iN (.sto 2 (.l 4) (.t 18))]) (
 .seq (.reg [
 iT 20 (.mv (.l 0)),iT 21 (.call 8 [.t 20]),iT 19 (.mv (.t 21)),iT 22 (.ext (.t 19) 0),iT 23 (.ext (.t 19) 1),iL 5 (.alloc zl3_0),iL 6 (.alloc [.p (.i .i64 0),.p (.i .i64 0)]),iN (.sto 7 (.l 5) (.t 22)),iN (.sto 2 (.l 6) (.t 23))]) (
 .seq (.seq (.reg [
 iT 24 (.ld true 7 (.l 5)),iT 25 (.ld true 7 (.l 3)),iT 26 (.call 9 [.t 24,.t 25]),iT 27 (.un .not (.t 26)),iT 28 (.mv (.t 27)),⟨.t 29,.ld true 2 (.l 6),some ((.t 28),false)⟩,⟨.t 30,.ld true 2 (.l 4),some ((.t 28),false)⟩,⟨.t 31,.call 10 [.t 29,.t 30],some ((.t 28),false)⟩,⟨.t 32,.un .not (.t 31),some ((.t 28),false)⟩,iL 33 (.pick (.t 28) (.c (.p (.b true))) (.t 32))]) (
 .cond (.l 33) (
 .seq (.reg [
 iL 2 (.mv (.c (.p (.b false))))]) (
 .ret)) (
 .skip))) (
 .seq (.reg [
 iL 7 (.mv (cI 1))]) (
 .seq (.reg [
 iT 34 (.ld true 7 (.l 5)),iT 35 (.mv (.l 7)),iT 36 (.call 11 [.t 34,.t 35]),iL 7 (.mv (.t 36))]) (
 .seq (.reg [
 iL 8 (.mv (cI 1))]) (
 .seq (.reg [
 iT 37 (.ld true 7 (.l 5)),iT 38 (.mv (.l 8)),iT 39 (.call 12 [.t 37,.t 38]),iL 8 (.mv (.t 39))]) (
 .seq (.seq (.reg [
 iT 40 (.mv (.l 8)),iL 41 (.bin .lss (.t 40) (cI 0))]) (
 .cond (.l 41) (
 .seq (.reg [
 iL 2 (.mv (.c (.p (.b false))))]) (
 .ret)) (
 .skip))) (
 .seq (.seq (.reg [
 iT 42 (.mv (.l 8)),iT 43 (.mv (.l 7)),iL 44 (.bin .neq (.t 42) (.t 43))]) (
 .cond (.l 44) (
 .seq (.reg [
 iL 2 (.mv (.c (.p (.b false))))]) (
 .ret)) (
 .skip))) (
 .seq (.reg [
 iT 46 (.mv (.l 0)),iT 47 (.call 8 [.t 46]),iT 45 (.mv (.t 47)),iT 48 (.ext (.t 45) 0),iT 49 (.ext (.t 45) 1),iL 9 (.alloc zl3_0),iL 10 (.alloc [.p (.i .i64 0),.p (.i .i64 0)]),iN (.sto 7 (.l 9) (.t 48)),iN (.sto 2 (.l 10) (.t 49))]) (
 .seq (.seq (.reg [
 iT 50 (.ld true 7 (.l 9)),iT 51 (.ld true 7 (.l 3)),iT 52 (.call 9 [.t 50,.t 51]),iT 53 (.un .not (.t 52)),iT 54 (.mv (.t 53)),⟨.t 55,.ld true 2 (.l 10),some ((.t 54),false)⟩,⟨.t 56,.ld true 2 (.l 4),some ((.t 54),false)⟩,⟨.t 57,.call 10 [.t 55,.t 56],some ((.t 54),false)⟩,⟨.t 58,.un .not (.t 57),some ((.t 54),false)⟩,iL 59 (.pick (.t 54) (.c (.p (.b true))) (.t 58))]) (
 .cond (.l 59) (
 .seq (.reg [
 iL 2 (.mv (.c (.p (.b false))))]) (
 .ret)) (
 .skip))) (
 .seq (.reg [
 iL 8 (.mv (cI 1))]) (
 .seq (.reg [
 iT 60 (.ld true 7 (.l 5)),iT 61 (.mv (.l 8)),iT 62 (.call 12 [.t 60,.t 61]),iL 8 (.mv (.t 62))]) (
 .seq (.seq (.reg [
 iT 63 (.mv (.l 8)),iL 64 (.bin .lss (.t 63) (cI 0))]) (
 .cond (.l 64) (
 .seq (.reg [
 iL 2 (.mv (.c (.p (.b false))))]) (
 .ret)) (
 .skip))) (
 .seq (.seq (.reg [
 iT 65 (.mv (.l 8)),iT 66 (.mv (.l 7)),iL 67 (.bin .neq (.t 65) (.t 66))]) (
 .cond (.l 67) (
 .seq (.reg [
 iL 2 (.mv (.c (.p (.b false))))]) (
 .ret)) (
 .skip))) (
 .seq (.reg [
 iL 2 (.mv (.c (.p (.b true))))]) (
 .ret))))))))))))))))))
theorem mc3_eq:(Tryz.f3.body.map (compile lv3 Tryz.prog 68))=some mc3:=by kernel_rfl
def mr3:List MR:=[.t 2]
theorem mr3_eq:cRess lv3 Tryz.prog Tryz.f3.results.toList=some mr3:=by kernel_rfl
theorem call3:CallT Tryz.prog 3 68 mc3 mr3:=acall_mc (by kernel_rfl) Tryz.func3 mc3_eq Tryz.ntmps3 (by kernel_rfl) mr3_eq
/- laws.eqExp -/
def lv9:List Nat:=[0,1,2,3,4,9,14,19,24,29,35,41]
def mc9:MC :=
.seq (.reg [
 iL 2 (.box 7 (.l 0)),iL 3 (.box 7 (.l 1)),iL 4 (.mv (.c (.p (.b false))))]) (
 .seq (.seq (.reg [
 iT 5 (.fad 0 (.l 2)),iT 6 (.ld false 1 (.t 5)),iT 7 (.fad 0 (.l 3)),iT 8 (.ld false 1 (.t 7)),iL 9 (.bin .neq (.t 6) (.t 8))]) (
 .cond (.l 9) (
 .seq (.reg [
 iL 4 (.mv (.c (.p (.b false))))]) (
 .ret)) (
 .skip))) (
 .seq (.seq (.reg [
 iT 10 (.fad 1 (.l 2)),iT 11 (.ld false 1 (.t 10)),iT 12 (.fad 1 (.l 3)),iT 13 (.ld false 1 (.t 12)),iL 14 (.bin .neq (.t 11) (.t 13))]) (
 .cond (.l 14) (
 .seq (.reg [
 iL 4 (.mv (.c (.p (.b false))))]) (
 .ret)) (
 .skip))) (
 .seq (.seq (.reg [
 iT 15 (.fad 2 (.l 2)),iT 16 (.ld false 1 (.t 15)),iT 17 (.fad 2 (.l 3)),iT 18 (.ld false 1 (.t 17)),iL 19 (.bin .neq (.t 16) (.t 18))]) (
 .cond (.l 19) (
 .seq (.reg [
 iL 4 (.mv (.c (.p (.b false))))]) (
 .ret)) (
 .skip))) (
 .seq (.seq (.reg [
 iT 20 (.fad 3 (.l 2)),iT 21 (.ld false 1 (.t 20)),iT 22 (.fad 3 (.l 3)),iT 23 (.ld false 1 (.t 22)),iL 24 (.bin .neq (.t 21) (.t 23))]) (
 .cond (.l 24) (
 .seq (.reg [
 iL 4 (.mv (.c (.p (.b false))))]) (
 .ret)) (
 .skip))) (
 .seq (.seq (.reg [
 iT 25 (.fad 4 (.l 2)),iT 26 (.ld false 1 (.t 25)),iT 27 (.fad 4 (.l 3)),iT 28 (.ld false 1 (.t 27)),iL 29 (.bin .neq (.t 26) (.t 28))]) (
 .cond (.l 29) (
 .seq (.reg [
 iL 4 (.mv (.c (.p (.b false))))]) (
 .ret)) (
 .skip))) (
 .seq (.seq (.reg [
 iT 30 (.fad 5 (.l 2)),iT 31 (.ld false 1 (.t 30)),iT 32 (.fad 5 (.l 3)),iT 33 (.ld false 1 (.t 32)),iT 34 (.call 32 [.t 31,.t 33]),iL 35 (.un .not (.t 34))]) (
 .cond (.l 35) (
 .seq (.reg [
 iL 4 (.mv (.c (.p (.b false))))]) (
 .ret)) (
 .skip))) (
 .seq (.seq (.reg [
 iT 36 (.fad 6 (.l 2)),iT 37 (.ld false 1 (.t 36)),iT 38 (.fad 6 (.l 3)),iT 39 (.ld false 1 (.t 38)),iT 40 (.call 33 [.t 37,.t 39]),iL 41 (.un .not (.t 40))]) (
 .cond (.l 41) (
 .seq (.reg [
 iL 4 (.mv (.c (.p (.b false))))]) (
 .ret)) (
 .skip))) (
 .seq (.reg [
 iL 4 (.mv (.c (.p (.b true))))]) (
 .ret)))))))))
theorem mc9_eq:(Tryz.f9.body.map (compile lv9 Tryz.prog 42))=some mc9:=by kernel_rfl
def mr9:List MR:=[.t 4]
theorem mr9_eq:cRess lv9 Tryz.prog Tryz.f9.results.toList=some mr9:=by kernel_rfl
theorem call9:CallT Tryz.prog 9 42 mc9 mr9:=acall_mc (by kernel_rfl) Tryz.func9 mc9_eq Tryz.ntmps9 (by kernel_rfl) mr9_eq
/- laws.eqFault -/
def lv10:List Nat:=[0,1,2,3,4,9,14]
def mc10:MC :=
.seq (.reg [
 iL 2 (.box 2 (.l 0)),iL 3 (.box 2 (.l 1)),iL 4 (.mv (.c (.p (.b false))))]) (
 .seq (.seq (.reg [
 iT 5 (.fad 0 (.l 2)),iT 6 (.ld false 1 (.t 5)),iT 7 (.fad 0 (.l 3)),iT 8 (.ld false 1 (.t 7)),iL 9 (.bin .neq (.t 6) (.t 8))]) (
 .cond (.l 9) (
 .seq (.reg [
 iL 4 (.mv (.c (.p (.b false))))]) (
 .ret)) (
 .skip))) (
 .seq (.seq (.reg [
 iT 10 (.fad 1 (.l 2)),iT 11 (.ld false 1 (.t 10)),iT 12 (.fad 1 (.l 3)),iT 13 (.ld false 1 (.t 12)),iL 14 (.bin .neq (.t 11) (.t 13))]) (
 .cond (.l 14) (
 .seq (.reg [
 iL 4 (.mv (.c (.p (.b false))))]) (
 .ret)) (
 .skip))) (
 .seq (.reg [
 iL 4 (.mv (.c (.p (.b true))))]) (
 .ret))))
theorem mc10_eq:(Tryz.f10.body.map (compile lv10 Tryz.prog 15))=some mc10:=by kernel_rfl
def mr10:List MR:=[.t 4]
theorem mr10_eq:cRess lv10 Tryz.prog Tryz.f10.results.toList=some mr10:=by kernel_rfl
theorem call10:CallT Tryz.prog 10 15 mc10 mr10:=acall_mc (by kernel_rfl) Tryz.func10 mc10_eq Tryz.ntmps10 (by kernel_rfl) mr10_eq
/- laws.markExp -/
def lv11:List Nat:=[0,1,2,4]
def mc11:MC :=
.seq (.reg [
 iL 2 (.box 7 (.l 0)),iL 4 (.mv (cI 0))]) (
 .seq (.reg [
 iT 5 (.fad 5 (.l 2)),iT 6 (.ld false 1 (.t 5)),iT 7 (.mv (.l 1)),iT 8 (.call 34 [.t 6,.t 7]),iL 1 (.mv (.t 8))]) (
 .seq (.reg [
 iT 9 (.fad 6 (.l 2)),iT 10 (.ld false 1 (.t 9)),iT 11 (.mv (.l 1)),iT 12 (.call 35 [.t 10,.t 11]),iL 1 (.mv (.t 12))]) (
 .seq (.reg [
 iT 13 (.mv (.l 1)),iL 4 (.mv (.t 13))]) (
 .ret))))
theorem mc11_eq:(Tryz.f11.body.map (compile lv11 Tryz.prog 14))=some mc11:=by kernel_rfl
def mr11:List MR:=[.t 4]
theorem mr11_eq:cRess lv11 Tryz.prog Tryz.f11.results.toList=some mr11:=by kernel_rfl
theorem call11:CallT Tryz.prog 11 14 mc11 mr11:=acall_mc (by kernel_rfl) Tryz.func11 mc11_eq Tryz.ntmps11 (by kernel_rfl) mr11_eq
/- laws.heldExp -/
def lv12:List Nat:=[0,1,2,4,10,16]
def mc12:MC :=
.seq (.reg [
 iL 2 (.box 7 (.l 0)),iL 4 (.mv (cI 0))]) (
 .seq (.reg [
 iT 5 (.fad 5 (.l 2)),iT 6 (.ld false 1 (.t 5)),iT 7 (.mv (.l 1)),iT 8 (.call 36 [.t 6,.t 7]),iL 1 (.mv (.t 8))]) (
 .seq (.seq (.reg [
 iT 9 (.mv (.l 1)),iL 10 (.bin .lss (.t 9) (cI 0))]) (
 .cond (.l 10) (
 .seq (.reg [
 iL 4 (.mv (cI (-1)))]) (
 .ret)) (
 .skip))) (
 .seq (.reg [
 iT 11 (.fad 6 (.l 2)),iT 12 (.ld false 1 (.t 11)),iT 13 (.mv (.l 1)),iT 14 (.call 37 [.t 12,.t 13]),iL 1 (.mv (.t 14))]) (
 .seq (.seq (.reg [
 iT 15 (.mv (.l 1)),iL 16 (.bin .lss (.t 15) (cI 0))]) (
 .cond (.l 16) (
 .seq (.reg [
 iL 4 (.mv (cI (-1)))]) (
 .ret)) (
 .skip))) (
 .seq (.reg [
 iT 17 (.mv (.l 1)),iL 4 (.mv (.t 17))]) (
 .ret))))))
theorem mc12_eq:(Tryz.f12.body.map (compile lv12 Tryz.prog 18))=some mc12:=by kernel_rfl
def mr12:List MR:=[.t 4]
theorem mr12_eq:cRess lv12 Tryz.prog Tryz.f12.results.toList=some mr12:=by kernel_rfl
theorem call12:CallT Tryz.prog 12 18 mc12 mr12:=acall_mc (by kernel_rfl) Tryz.func12 mc12_eq Tryz.ntmps12 (by kernel_rfl) mr12_eq
/- laws.eqExpS -/
def lv32:List Nat:=[0,1,4,5,10,14,26]
def mc32:MC :=
.seq (.reg [
 iL 4 (.mv (.c (.p (.b false))))]) (
 .seq (.seq (.reg [
 iT 6 (.mv (.l 0)),iT 7 (.len false (.t 6)),iT 8 (.mv (.l 1)),iT 9 (.len false (.t 8)),iL 10 (.bin .neq (.t 7) (.t 9))]) (
 .cond (.l 10) (
 .seq (.reg [
 iL 4 (.mv (.c (.p (.b false))))]) (
 .ret)) (
 .skip))) (
 .seq (.seq (.reg [
 iL 5 (.mv (cI 0))]) (
 .blk 0 (
 .loop (
 .seq (.seq (.reg [
 iT 11 (.mv (.l 5)),iT 12 (.mv (.l 0)),iT 13 (.len false (.t 12)),iL 14 (.bin .lss (.t 11) (.t 13))]) (
 .cond (.l 14) (
 .skip) (
 .exit 0))) (
 .seq (.blk 1 (
 .seq (.drw [
 iT 17 (.mv (.l 0)),iT 18 (.mv (.l 5)),iT 19 (.ixs 7 (.t 17) (.t 18)),iT 20 (.ld true 7 (.t 19)),iT 21 (.mv (.l 1)),iT 22 (.mv (.l 5)),iT 23 (.ixs 7 (.t 21) (.t 22)),iT 24 (.ld true 7 (.t 23))] [
 iT 25 (.call 9 [.t 20,.t 24]),iL 26 (.un .not (.t 25))]) (
 .cond (.l 26) (
 .seq (.reg [
 iL 4 (.mv (.c (.p (.b false))))]) (
 .ret)) (
 .skip)))) (
 .reg [
 iT 15 (.mv (.l 5)),iT 16 (.bin .add (.t 15) (cI 1)),iL 5 (.mv (.t 16))])))))) (
 .seq (.reg [
 iL 4 (.mv (.c (.p (.b true))))]) (
 .ret))))
theorem mc32_eq:(Tryz.f32.body.map (compile lv32 Tryz.prog 27))=some mc32:=by kernel_rfl
def mr32:List MR:=[.t 4]
theorem mr32_eq:cRess lv32 Tryz.prog Tryz.f32.results.toList=some mr32:=by kernel_rfl
theorem call32:CallT Tryz.prog 32 27 mc32 mr32:=acall_mc (by kernel_rfl) Tryz.func32 mc32_eq Tryz.ntmps32 (by kernel_rfl) mr32_eq
/- laws.eqArmS -/
def lv33:List Nat:=[0,1,4,5,10,14,26]
def mc33:MC :=
.seq (.reg [
 iL 4 (.mv (.c (.p (.b false))))]) (
 .seq (.seq (.reg [
 iT 6 (.mv (.l 0)),iT 7 (.len false (.t 6)),iT 8 (.mv (.l 1)),iT 9 (.len false (.t 8)),iL 10 (.bin .neq (.t 7) (.t 9))]) (
 .cond (.l 10) (
 .seq (.reg [
 iL 4 (.mv (.c (.p (.b false))))]) (
 .ret)) (
 .skip))) (
 .seq (.seq (.reg [
 iL 5 (.mv (cI 0))]) (
 .blk 0 (
 .loop (
 .seq (.seq (.reg [
 iT 11 (.mv (.l 5)),iT 12 (.mv (.l 0)),iT 13 (.len false (.t 12)),iL 14 (.bin .lss (.t 11) (.t 13))]) (
 .cond (.l 14) (
 .skip) (
 .exit 0))) (
 .seq (.blk 1 (
 .seq (.drw [
 iT 17 (.mv (.l 0)),iT 18 (.mv (.l 5)),iT 19 (.ixs 12 (.t 17) (.t 18)),iT 20 (.ld true 12 (.t 19)),iT 21 (.mv (.l 1)),iT 22 (.mv (.l 5)),iT 23 (.ixs 12 (.t 21) (.t 22)),iT 24 (.ld true 12 (.t 23))] [
 iT 25 (.call 66 [.t 20,.t 24]),iL 26 (.un .not (.t 25))]) (
 .cond (.l 26) (
 .seq (.reg [
 iL 4 (.mv (.c (.p (.b false))))]) (
 .ret)) (
 .skip)))) (
 .reg [
 iT 15 (.mv (.l 5)),iT 16 (.bin .add (.t 15) (cI 1)),iL 5 (.mv (.t 16))])))))) (
 .seq (.reg [
 iL 4 (.mv (.c (.p (.b true))))]) (
 .ret))))
theorem mc33_eq:(Tryz.f33.body.map (compile lv33 Tryz.prog 27))=some mc33:=by kernel_rfl
def mr33:List MR:=[.t 4]
theorem mr33_eq:cRess lv33 Tryz.prog Tryz.f33.results.toList=some mr33:=by kernel_rfl
theorem call33:CallT Tryz.prog 33 27 mc33 mr33:=acall_mc (by kernel_rfl) Tryz.func33 mc33_eq Tryz.ntmps33 (by kernel_rfl) mr33_eq
/- laws.markExpS -/
def lv34:List Nat:=[0,1,4,5,9]
def mc34:MC :=
.seq (.reg [
 iL 4 (.mv (cI 0))]) (
 .seq (.seq (.reg [
 iL 5 (.mv (cI 0))]) (
 .blk 0 (
 .loop (
 .seq (.seq (.reg [
 iT 6 (.mv (.l 5)),iT 7 (.mv (.l 0)),iT 8 (.len false (.t 7)),iL 9 (.bin .lss (.t 6) (.t 8))]) (
 .cond (.l 9) (
 .skip) (
 .exit 0))) (
 .seq (.blk 1 (
 .seq (.reg [
 iT 12 (.mv (.l 0)),iT 13 (.mv (.l 5)),iT 14 (.mv (.l 1)),iT 15 (.ixs 7 (.t 12) (.t 13)),iT 16 (.fad 0 (.t 15)),iN (.sto 1 (.t 16) (.t 14))]) (
 .seq (.reg [
 iT 17 (.mv (.l 1)),iT 18 (.bin .add (.t 17) (cI 1)),iL 1 (.mv (.t 18))]) (
 .seq (.reg [
 iT 19 (.mv (.l 0)),iT 20 (.mv (.l 5)),iT 21 (.mv (.l 1)),iT 22 (.call 67 [.t 21]),iT 23 (.ixs 7 (.t 19) (.t 20)),iT 24 (.fad 1 (.t 23)),iN (.sto 1 (.t 24) (.t 22))]) (
 .seq (.reg [
 iT 25 (.mv (.l 1)),iT 26 (.bin .add (.t 25) (cI 1)),iL 1 (.mv (.t 26))]) (
 .seq (.reg [
 iT 27 (.mv (.l 0)),iT 28 (.mv (.l 5)),iT 29 (.mv (.l 1)),iT 30 (.ixs 7 (.t 27) (.t 28)),iT 31 (.fad 2 (.t 30)),iN (.sto 1 (.t 31) (.t 29))]) (
 .seq (.reg [
 iT 32 (.mv (.l 1)),iT 33 (.bin .add (.t 32) (cI 1)),iL 1 (.mv (.t 33))]) (
 .seq (.reg [
 iT 34 (.mv (.l 0)),iT 35 (.mv (.l 5)),iT 36 (.mv (.l 1)),iT 37 (.call 67 [.t 36]),iT 38 (.ixs 7 (.t 34) (.t 35)),iT 39 (.fad 3 (.t 38)),iN (.sto 1 (.t 39) (.t 37))]) (
 .seq (.reg [
 iT 40 (.mv (.l 1)),iT 41 (.bin .add (.t 40) (cI 1)),iL 1 (.mv (.t 41))]) (
 .seq (.reg [
 iT 42 (.mv (.l 0)),iT 43 (.mv (.l 5)),iT 44 (.mv (.l 1)),iT 45 (.ixs 7 (.t 42) (.t 43)),iT 46 (.fad 4 (.t 45)),iN (.sto 1 (.t 46) (.t 44))]) (
 .seq (.reg [
 iT 47 (.mv (.l 1)),iT 48 (.bin .add (.t 47) (cI 1)),iL 1 (.mv (.t 48))]) (
 .seq (.reg [
 iT 49 (.mv (.l 0)),iT 50 (.mv (.l 5)),iT 51 (.ixs 7 (.t 49) (.t 50)),iT 52 (.fad 5 (.t 51)),iT 53 (.ld false 1 (.t 52)),iT 54 (.mv (.l 1)),iT 55 (.call 34 [.t 53,.t 54]),iL 1 (.mv (.t 55))]) (
 .reg [
 iT 56 (.mv (.l 0)),iT 57 (.mv (.l 5)),iT 58 (.ixs 7 (.t 56) (.t 57)),iT 59 (.fad 6 (.t 58)),iT 60 (.ld false 1 (.t 59)),iT 61 (.mv (.l 1)),iT 62 (.call 35 [.t 60,.t 61]),iL 1 (.mv (.t 62))]))))))))))))) (
 .reg [
 iT 10 (.mv (.l 5)),iT 11 (.bin .add (.t 10) (cI 1)),iL 5 (.mv (.t 11))])))))) (
 .seq (.reg [
 iT 63 (.mv (.l 1)),iL 4 (.mv (.t 63))]) (
 .ret)))
theorem mc34_eq:(Tryz.f34.body.map (compile lv34 Tryz.prog 64))=some mc34:=by kernel_rfl
def mr34:List MR:=[.t 4]
theorem mr34_eq:cRess lv34 Tryz.prog Tryz.f34.results.toList=some mr34:=by kernel_rfl
theorem call34:CallT Tryz.prog 34 64 mc34 mr34:=acall_mc (by kernel_rfl) Tryz.func34 mc34_eq Tryz.ntmps34 (by kernel_rfl) mr34_eq
/- laws.markArmS -/
def lv35:List Nat:=[0,1,4,5,9]
def mc35:MC :=
.seq (.reg [
 iL 4 (.mv (cI 0))]) (
 .seq (.seq (.reg [
 iL 5 (.mv (cI 0))]) (
 .blk 0 (
 .loop (
 .seq (.seq (.reg [
 iT 6 (.mv (.l 5)),iT 7 (.mv (.l 0)),iT 8 (.len false (.t 7)),iL 9 (.bin .lss (.t 6) (.t 8))]) (
 .cond (.l 9) (
 .skip) (
 .exit 0))) (
 .seq (.blk 1 (
 .seq (.reg [
 iT 12 (.mv (.l 0)),iT 13 (.mv (.l 5)),iT 14 (.mv (.l 1)),iT 15 (.ixs 12 (.t 12) (.t 13)),iT 16 (.fad 0 (.t 15)),iT 17 (.fad 0 (.t 16)),iN (.sto 1 (.t 17) (.t 14))]) (
 .seq (.reg [
 iT 18 (.mv (.l 1)),iT 19 (.bin .add (.t 18) (cI 1)),iL 1 (.mv (.t 19))]) (
 .seq (.reg [
 iT 20 (.mv (.l 0)),iT 21 (.mv (.l 5)),iT 22 (.mv (.l 1)),iT 23 (.call 67 [.t 22]),iT 24 (.ixs 12 (.t 20) (.t 21)),iT 25 (.fad 0 (.t 24)),iT 26 (.fad 1 (.t 25)),iN (.sto 1 (.t 26) (.t 23))]) (
 .seq (.reg [
 iT 27 (.mv (.l 1)),iT 28 (.bin .add (.t 27) (cI 1)),iL 1 (.mv (.t 28))]) (
 .seq (.reg [
 iT 29 (.mv (.l 0)),iT 30 (.mv (.l 5)),iT 31 (.mv (.l 1)),iT 32 (.ixs 12 (.t 29) (.t 30)),iT 33 (.fad 0 (.t 32)),iT 34 (.fad 2 (.t 33)),iN (.sto 1 (.t 34) (.t 31))]) (
 .seq (.reg [
 iT 35 (.mv (.l 1)),iT 36 (.bin .add (.t 35) (cI 1)),iL 1 (.mv (.t 36))]) (
 .seq (.reg [
 iT 37 (.mv (.l 0)),iT 38 (.mv (.l 5)),iT 39 (.mv (.l 1)),iT 40 (.ixs 12 (.t 37) (.t 38)),iT 41 (.fad 0 (.t 40)),iT 42 (.fad 3 (.t 41)),iN (.sto 1 (.t 42) (.t 39))]) (
 .seq (.reg [
 iT 43 (.mv (.l 1)),iT 44 (.bin .add (.t 43) (cI 1)),iL 1 (.mv (.t 44))]) (
 .seq (.reg [
 iT 45 (.mv (.l 0)),iT 46 (.mv (.l 5)),iT 47 (.ixs 12 (.t 45) (.t 46)),iT 48 (.fad 0 (.t 47)),iT 49 (.fad 4 (.t 48)),iT 50 (.ld false 1 (.t 49)),iT 51 (.mv (.l 1)),iT 52 (.call 68 [.t 50,.t 51]),iL 1 (.mv (.t 52))]) (
 .seq (.reg [
 iT 53 (.mv (.l 0)),iT 54 (.mv (.l 5)),iT 55 (.mv (.l 1)),iT 56 (.ixs 12 (.t 53) (.t 54)),iT 57 (.fad 5 (.t 56)),iT 58 (.fad 0 (.t 57)),iN (.sto 1 (.t 58) (.t 55))]) (
 .seq (.reg [
 iT 59 (.mv (.l 1)),iT 60 (.bin .add (.t 59) (cI 1)),iL 1 (.mv (.t 60))]) (
 .seq (.reg [
 iT 61 (.mv (.l 0)),iT 62 (.mv (.l 5)),iT 63 (.mv (.l 1)),iT 64 (.call 67 [.t 63]),iT 65 (.ixs 12 (.t 61) (.t 62)),iT 66 (.fad 5 (.t 65)),iT 67 (.fad 1 (.t 66)),iN (.sto 1 (.t 67) (.t 64))]) (
 .seq (.reg [
 iT 68 (.mv (.l 1)),iT 69 (.bin .add (.t 68) (cI 1)),iL 1 (.mv (.t 69))]) (
 .seq (.reg [
 iT 70 (.mv (.l 0)),iT 71 (.mv (.l 5)),iT 72 (.mv (.l 1)),iT 73 (.ixs 12 (.t 70) (.t 71)),iT 74 (.fad 5 (.t 73)),iT 75 (.fad 2 (.t 74)),iN (.sto 1 (.t 75) (.t 72))]) (
 .seq (.reg [
 iT 76 (.mv (.l 1)),iT 77 (.bin .add (.t 76) (cI 1)),iL 1 (.mv (.t 77))]) (
 .seq (.reg [
 iT 78 (.mv (.l 0)),iT 79 (.mv (.l 5)),iT 80 (.mv (.l 1)),iT 81 (.call 67 [.t 80]),iT 82 (.ixs 12 (.t 78) (.t 79)),iT 83 (.fad 5 (.t 82)),iT 84 (.fad 3 (.t 83)),iN (.sto 1 (.t 84) (.t 81))]) (
 .seq (.reg [
 iT 85 (.mv (.l 1)),iT 86 (.bin .add (.t 85) (cI 1)),iL 1 (.mv (.t 86))]) (
 .seq (.reg [
 iT 87 (.mv (.l 0)),iT 88 (.mv (.l 5)),iT 89 (.mv (.l 1)),iT 90 (.ixs 12 (.t 87) (.t 88)),iT 91 (.fad 5 (.t 90)),iT 92 (.fad 4 (.t 91)),iN (.sto 1 (.t 92) (.t 89))]) (
 .seq (.reg [
 iT 93 (.mv (.l 1)),iT 94 (.bin .add (.t 93) (cI 1)),iL 1 (.mv (.t 94))]) (
 .seq (.reg [
 iT 95 (.mv (.l 0)),iT 96 (.mv (.l 5)),iT 97 (.ixs 12 (.t 95) (.t 96)),iT 98 (.fad 5 (.t 97)),iT 99 (.fad 5 (.t 98)),iT 100 (.ld false 1 (.t 99)),iT 101 (.mv (.l 1)),iT 102 (.call 34 [.t 100,.t 101]),iL 1 (.mv (.t 102))]) (
 .reg [
 iT 103 (.mv (.l 0)),iT 104 (.mv (.l 5)),iT 105 (.ixs 12 (.t 103) (.t 104)),iT 106 (.fad 5 (.t 105)),iT 107 (.fad 6 (.t 106)),iT 108 (.ld false 1 (.t 107)),iT 109 (.mv (.l 1)),iT 110 (.call 35 [.t 108,.t 109]),iL 1 (.mv (.t 110))])))))))))))))))))))))) (
 .reg [
 iT 10 (.mv (.l 5)),iT 11 (.bin .add (.t 10) (cI 1)),iL 5 (.mv (.t 11))])))))) (
 .seq (.reg [
 iT 111 (.mv (.l 1)),iL 4 (.mv (.t 111))]) (
 .ret)))
theorem mc35_eq:(Tryz.f35.body.map (compile lv35 Tryz.prog 112))=some mc35:=by kernel_rfl
def mr35:List MR:=[.t 4]
theorem mr35_eq:cRess lv35 Tryz.prog Tryz.f35.results.toList=some mr35:=by kernel_rfl
theorem call35:CallT Tryz.prog 35 112 mc35 mr35:=acall_mc (by kernel_rfl) Tryz.func35 mc35_eq Tryz.ntmps35 (by kernel_rfl) mr35_eq
/- laws.heldExpS -/
def lv36:List Nat:=[0,1,4,5,9,18,28,37,47,56,67,76]
def mc36:MC :=
.seq (.reg [
 iL 4 (.mv (cI 0))]) (
 .seq (.seq (.reg [
 iL 5 (.mv (cI 0))]) (
 .blk 0 (
 .loop (
 .seq (.seq (.reg [
 iT 6 (.mv (.l 5)),iT 7 (.mv (.l 0)),iT 8 (.len false (.t 7)),iL 9 (.bin .lss (.t 6) (.t 8))]) (
 .cond (.l 9) (
 .skip) (
 .exit 0))) (
 .seq (.blk 1 (
 .seq (.seq (.reg [
 iT 12 (.mv (.l 0)),iT 13 (.mv (.l 5)),iT 14 (.ixs 7 (.t 12) (.t 13)),iT 15 (.fad 0 (.t 14)),iT 16 (.ld false 1 (.t 15)),iT 17 (.mv (.l 1)),iL 18 (.bin .neq (.t 16) (.t 17))]) (
 .cond (.l 18) (
 .seq (.reg [
 iL 4 (.mv (cI (-1)))]) (
 .ret)) (
 .skip))) (
 .seq (.reg [
 iT 19 (.mv (.l 1)),iT 20 (.bin .add (.t 19) (cI 1)),iL 1 (.mv (.t 20))]) (
 .seq (.seq (.drw [
 iT 21 (.mv (.l 0)),iT 22 (.mv (.l 5)),iT 23 (.ixs 7 (.t 21) (.t 22)),iT 24 (.fad 1 (.t 23)),iT 25 (.ld false 1 (.t 24)),iT 26 (.mv (.l 1)),iT 27 (.call 67 [.t 26])] [
 iL 28 (.bin .neq (.t 25) (.t 27))]) (
 .cond (.l 28) (
 .seq (.reg [
 iL 4 (.mv (cI (-1)))]) (
 .ret)) (
 .skip))) (
 .seq (.reg [
 iT 29 (.mv (.l 1)),iT 30 (.bin .add (.t 29) (cI 1)),iL 1 (.mv (.t 30))]) (
 .seq (.seq (.reg [
 iT 31 (.mv (.l 0)),iT 32 (.mv (.l 5)),iT 33 (.ixs 7 (.t 31) (.t 32)),iT 34 (.fad 2 (.t 33)),iT 35 (.ld false 1 (.t 34)),iT 36 (.mv (.l 1)),iL 37 (.bin .neq (.t 35) (.t 36))]) (
 .cond (.l 37) (
 .seq (.reg [
 iL 4 (.mv (cI (-1)))]) (
 .ret)) (
 .skip))) (
 .seq (.reg [
 iT 38 (.mv (.l 1)),iT 39 (.bin .add (.t 38) (cI 1)),iL 1 (.mv (.t 39))]) (
 .seq (.seq (.drw [
 iT 40 (.mv (.l 0)),iT 41 (.mv (.l 5)),iT 42 (.ixs 7 (.t 40) (.t 41)),iT 43 (.fad 3 (.t 42)),iT 44 (.ld false 1 (.t 43)),iT 45 (.mv (.l 1)),iT 46 (.call 67 [.t 45])] [
 iL 47 (.bin .neq (.t 44) (.t 46))]) (
 .cond (.l 47) (
 .seq (.reg [
 iL 4 (.mv (cI (-1)))]) (
 .ret)) (
 .skip))) (
 .seq (.reg [
 iT 48 (.mv (.l 1)),iT 49 (.bin .add (.t 48) (cI 1)),iL 1 (.mv (.t 49))]) (
 .seq (.seq (.reg [
 iT 50 (.mv (.l 0)),iT 51 (.mv (.l 5)),iT 52 (.ixs 7 (.t 50) (.t 51)),iT 53 (.fad 4 (.t 52)),iT 54 (.ld false 1 (.t 53)),iT 55 (.mv (.l 1)),iL 56 (.bin .neq (.t 54) (.t 55))]) (
 .cond (.l 56) (
 .seq (.reg [
 iL 4 (.mv (cI (-1)))]) (
 .ret)) (
 .skip))) (
 .seq (.reg [
 iT 57 (.mv (.l 1)),iT 58 (.bin .add (.t 57) (cI 1)),iL 1 (.mv (.t 58))]) (
 .seq (.reg [
 iT 59 (.mv (.l 0)),iT 60 (.mv (.l 5)),iT 61 (.ixs 7 (.t 59) (.t 60)),iT 62 (.fad 5 (.t 61)),iT 63 (.ld false 1 (.t 62)),iT 64 (.mv (.l 1)),iT 65 (.call 36 [.t 63,.t 64]),iL 1 (.mv (.t 65))]) (
 .seq (.seq (.reg [
 iT 66 (.mv (.l 1)),iL 67 (.bin .lss (.t 66) (cI 0))]) (
 .cond (.l 67) (
 .seq (.reg [
 iL 4 (.mv (cI (-1)))]) (
 .ret)) (
 .skip))) (
 .seq (.reg [
 iT 68 (.mv (.l 0)),iT 69 (.mv (.l 5)),iT 70 (.ixs 7 (.t 68) (.t 69)),iT 71 (.fad 6 (.t 70)),iT 72 (.ld false 1 (.t 71)),iT 73 (.mv (.l 1)),iT 74 (.call 37 [.t 72,.t 73]),iL 1 (.mv (.t 74))]) (
 .seq (.reg [
 iT 75 (.mv (.l 1)),iL 76 (.bin .lss (.t 75) (cI 0))]) (
 .cond (.l 76) (
 .seq (.reg [
 iL 4 (.mv (cI (-1)))]) (
 .ret)) (
 .skip))))))))))))))))) (
 .reg [
 iT 10 (.mv (.l 5)),iT 11 (.bin .add (.t 10) (cI 1)),iL 5 (.mv (.t 11))])))))) (
 .seq (.reg [
 iT 77 (.mv (.l 1)),iL 4 (.mv (.t 77))]) (
 .ret)))
theorem mc36_eq:(Tryz.f36.body.map (compile lv36 Tryz.prog 78))=some mc36:=by kernel_rfl
def mr36:List MR:=[.t 4]
theorem mr36_eq:cRess lv36 Tryz.prog Tryz.f36.results.toList=some mr36:=by kernel_rfl
theorem call36:CallT Tryz.prog 36 78 mc36 mr36:=acall_mc (by kernel_rfl) Tryz.func36 mc36_eq Tryz.ntmps36 (by kernel_rfl) mr36_eq
/- laws.heldArmS -/
def lv37:List Nat:=[0,1,4,5,9,19,30,40,50,62,70,81,91,102,112,124,134]
def mc37:MC :=
.seq (.reg [
 iL 4 (.mv (cI 0))]) (
 .seq (.seq (.reg [
 iL 5 (.mv (cI 0))]) (
 .blk 0 (
 .loop (
 .seq (.seq (.reg [
 iT 6 (.mv (.l 5)),iT 7 (.mv (.l 0)),iT 8 (.len false (.t 7)),iL 9 (.bin .lss (.t 6) (.t 8))]) (
 .cond (.l 9) (
 .skip) (
 .exit 0))) (
 .seq (.blk 1 (
 .seq (.seq (.reg [
 iT 12 (.mv (.l 0)),iT 13 (.mv (.l 5)),iT 14 (.ixs 12 (.t 12) (.t 13)),iT 15 (.fad 0 (.t 14)),iT 16 (.fad 0 (.t 15)),iT 17 (.ld false 1 (.t 16)),iT 18 (.mv (.l 1)),iL 19 (.bin .neq (.t 17) (.t 18))]) (
 .cond (.l 19) (
 .seq (.reg [
 iL 4 (.mv (cI (-1)))]) (
 .ret)) (
 .skip))) (
 .seq (.reg [
 iT 20 (.mv (.l 1)),iT 21 (.bin .add (.t 20) (cI 1)),iL 1 (.mv (.t 21))]) (
 .seq (.seq (.drw [
 iT 22 (.mv (.l 0)),iT 23 (.mv (.l 5)),iT 24 (.ixs 12 (.t 22) (.t 23)),iT 25 (.fad 0 (.t 24)),iT 26 (.fad 1 (.t 25)),iT 27 (.ld false 1 (.t 26)),iT 28 (.mv (.l 1)),iT 29 (.call 67 [.t 28])] [
 iL 30 (.bin .neq (.t 27) (.t 29))]) (
 .cond (.l 30) (
 .seq (.reg [
 iL 4 (.mv (cI (-1)))]) (
 .ret)) (
 .skip))) (
 .seq (.reg [
 iT 31 (.mv (.l 1)),iT 32 (.bin .add (.t 31) (cI 1)),iL 1 (.mv (.t 32))]) (
 .seq (.seq (.reg [
 iT 33 (.mv (.l 0)),iT 34 (.mv (.l 5)),iT 35 (.ixs 12 (.t 33) (.t 34)),iT 36 (.fad 0 (.t 35)),iT 37 (.fad 2 (.t 36)),iT 38 (.ld false 1 (.t 37)),iT 39 (.mv (.l 1)),iL 40 (.bin .neq (.t 38) (.t 39))]) (
 .cond (.l 40) (
 .seq (.reg [
 iL 4 (.mv (cI (-1)))]) (
 .ret)) (
 .skip))) (
 .seq (.reg [
 iT 41 (.mv (.l 1)),iT 42 (.bin .add (.t 41) (cI 1)),iL 1 (.mv (.t 42))]) (
 .seq (.seq (.reg [
 iT 43 (.mv (.l 0)),iT 44 (.mv (.l 5)),iT 45 (.ixs 12 (.t 43) (.t 44)),iT 46 (.fad 0 (.t 45)),iT 47 (.fad 3 (.t 46)),iT 48 (.ld false 1 (.t 47)),iT 49 (.mv (.l 1)),iL 50 (.bin .neq (.t 48) (.t 49))]) (
 .cond (.l 50) (
 .seq (.reg [
 iL 4 (.mv (cI (-1)))]) (
 .ret)) (
 .skip))) (
 .seq (.reg [
 iT 51 (.mv (.l 1)),iT 52 (.bin .add (.t 51) (cI 1)),iL 1 (.mv (.t 52))]) (
 .seq (.reg [
 iT 53 (.mv (.l 0)),iT 54 (.mv (.l 5)),iT 55 (.ixs 12 (.t 53) (.t 54)),iT 56 (.fad 0 (.t 55)),iT 57 (.fad 4 (.t 56)),iT 58 (.ld false 1 (.t 57)),iT 59 (.mv (.l 1)),iT 60 (.call 69 [.t 58,.t 59]),iL 1 (.mv (.t 60))]) (
 .seq (.seq (.reg [
 iT 61 (.mv (.l 1)),iL 62 (.bin .lss (.t 61) (cI 0))]) (
 .cond (.l 62) (
 .seq (.reg [
 iL 4 (.mv (cI (-1)))]) (
 .ret)) (
 .skip))) (
 .seq (.seq (.reg [
 iT 63 (.mv (.l 0)),iT 64 (.mv (.l 5)),iT 65 (.ixs 12 (.t 63) (.t 64)),iT 66 (.fad 5 (.t 65)),iT 67 (.fad 0 (.t 66)),iT 68 (.ld false 1 (.t 67)),iT 69 (.mv (.l 1)),iL 70 (.bin .neq (.t 68) (.t 69))]) (
 .cond (.l 70) (
 .seq (.reg [
 iL 4 (.mv (cI (-1)))]) (
 .ret)) (
 .skip))) (
 .seq (.reg [
 iT 71 (.mv (.l 1)),iT 72 (.bin .add (.t 71) (cI 1)),iL 1 (.mv (.t 72))]) (
 .seq (.seq (.drw [
 iT 73 (.mv (.l 0)),iT 74 (.mv (.l 5)),iT 75 (.ixs 12 (.t 73) (.t 74)),iT 76 (.fad 5 (.t 75)),iT 77 (.fad 1 (.t 76)),iT 78 (.ld false 1 (.t 77)),iT 79 (.mv (.l 1)),iT 80 (.call 67 [.t 79])] [
 iL 81 (.bin .neq (.t 78) (.t 80))]) (
 .cond (.l 81) (
 .seq (.reg [
 iL 4 (.mv (cI (-1)))]) (
 .ret)) (
 .skip))) (
 .seq (.reg [
 iT 82 (.mv (.l 1)),iT 83 (.bin .add (.t 82) (cI 1)),iL 1 (.mv (.t 83))]) (
 .seq (.seq (.reg [
 iT 84 (.mv (.l 0)),iT 85 (.mv (.l 5)),iT 86 (.ixs 12 (.t 84) (.t 85)),iT 87 (.fad 5 (.t 86)),iT 88 (.fad 2 (.t 87)),iT 89 (.ld false 1 (.t 88)),iT 90 (.mv (.l 1)),iL 91 (.bin .neq (.t 89) (.t 90))]) (
 .cond (.l 91) (
 .seq (.reg [
 iL 4 (.mv (cI (-1)))]) (
 .ret)) (
 .skip))) (
 .seq (.reg [
 iT 92 (.mv (.l 1)),iT 93 (.bin .add (.t 92) (cI 1)),iL 1 (.mv (.t 93))]) (
 .seq (.seq (.drw [
 iT 94 (.mv (.l 0)),iT 95 (.mv (.l 5)),iT 96 (.ixs 12 (.t 94) (.t 95)),iT 97 (.fad 5 (.t 96)),iT 98 (.fad 3 (.t 97)),iT 99 (.ld false 1 (.t 98)),iT 100 (.mv (.l 1)),iT 101 (.call 67 [.t 100])] [
 iL 102 (.bin .neq (.t 99) (.t 101))]) (
 .cond (.l 102) (
 .seq (.reg [
 iL 4 (.mv (cI (-1)))]) (
 .ret)) (
 .skip))) (
 .seq (.reg [
 iT 103 (.mv (.l 1)),iT 104 (.bin .add (.t 103) (cI 1)),iL 1 (.mv (.t 104))]) (
 .seq (.seq (.reg [
 iT 105 (.mv (.l 0)),iT 106 (.mv (.l 5)),iT 107 (.ixs 12 (.t 105) (.t 106)),iT 108 (.fad 5 (.t 107)),iT 109 (.fad 4 (.t 108)),iT 110 (.ld false 1 (.t 109)),iT 111 (.mv (.l 1)),iL 112 (.bin .neq (.t 110) (.t 111))]) (
 .cond (.l 112) (
 .seq (.reg [
 iL 4 (.mv (cI (-1)))]) (
 .ret)) (
 .skip))) (
 .seq (.reg [
 iT 113 (.mv (.l 1)),iT 114 (.bin .add (.t 113) (cI 1)),iL 1 (.mv (.t 114))]) (
 .seq (.reg [
 iT 115 (.mv (.l 0)),iT 116 (.mv (.l 5)),iT 117 (.ixs 12 (.t 115) (.t 116)),iT 118 (.fad 5 (.t 117)),iT 119 (.fad 5 (.t 118)),iT 120 (.ld false 1 (.t 119)),iT 121 (.mv (.l 1)),iT 122 (.call 36 [.t 120,.t 121]),iL 1 (.mv (.t 122))]) (
 .seq (.seq (.reg [
 iT 123 (.mv (.l 1)),iL 124 (.bin .lss (.t 123) (cI 0))]) (
 .cond (.l 124) (
 .seq (.reg [
 iL 4 (.mv (cI (-1)))]) (
 .ret)) (
 .skip))) (
 .seq (.reg [
 iT 125 (.mv (.l 0)),iT 126 (.mv (.l 5)),iT 127 (.ixs 12 (.t 125) (.t 126)),iT 128 (.fad 5 (.t 127)),iT 129 (.fad 6 (.t 128)),iT 130 (.ld false 1 (.t 129)),iT 131 (.mv (.l 1)),iT 132 (.call 37 [.t 130,.t 131]),iL 1 (.mv (.t 132))]) (
 .seq (.reg [
 iT 133 (.mv (.l 1)),iL 134 (.bin .lss (.t 133) (cI 0))]) (
 .cond (.l 134) (
 .seq (.reg [
 iL 4 (.mv (cI (-1)))]) (
 .ret)) (
 .skip))))))))))))))))))))))))))) (
 .reg [
 iT 10 (.mv (.l 5)),iT 11 (.bin .add (.t 10) (cI 1)),iL 5 (.mv (.t 11))])))))) (
 .seq (.reg [
 iT 135 (.mv (.l 1)),iL 4 (.mv (.t 135))]) (
 .ret)))
theorem mc37_eq:(Tryz.f37.body.map (compile lv37 Tryz.prog 136))=some mc37:=by kernel_rfl
def mr37:List MR:=[.t 4]
theorem mr37_eq:cRess lv37 Tryz.prog Tryz.f37.results.toList=some mr37:=by kernel_rfl
theorem call37:CallT Tryz.prog 37 136 mc37 mr37:=acall_mc (by kernel_rfl) Tryz.func37 mc37_eq Tryz.ntmps37 (by kernel_rfl) mr37_eq
/- laws.eqArm -/
def lv66:List Nat:=[0,1,2,3,4,10,16]
def mc66:MC :=
.seq (.reg [
 iL 2 (.box 12 (.l 0)),iL 3 (.box 12 (.l 1)),iL 4 (.mv (.c (.p (.b false))))]) (
 .seq (.seq (.reg [
 iT 5 (.fad 0 (.l 2)),iT 6 (.ld true 5 (.t 5)),iT 7 (.fad 0 (.l 3)),iT 8 (.ld true 5 (.t 7)),iT 9 (.call 113 [.t 6,.t 8]),iL 10 (.un .not (.t 9))]) (
 .cond (.l 10) (
 .seq (.reg [
 iL 4 (.mv (.c (.p (.b false))))]) (
 .ret)) (
 .skip))) (
 .seq (.seq (.reg [
 iT 11 (.fad 5 (.l 2)),iT 12 (.ld true 7 (.t 11)),iT 13 (.fad 5 (.l 3)),iT 14 (.ld true 7 (.t 13)),iT 15 (.call 9 [.t 12,.t 14]),iL 16 (.un .not (.t 15))]) (
 .cond (.l 16) (
 .seq (.reg [
 iL 4 (.mv (.c (.p (.b false))))]) (
 .ret)) (
 .skip))) (
 .seq (.reg [
 iL 4 (.mv (.c (.p (.b true))))]) (
 .ret))))
theorem mc66_eq:(Tryz.f66.body.map (compile lv66 Tryz.prog 17))=some mc66:=by kernel_rfl
def mr66:List MR:=[.t 4]
theorem mr66_eq:cRess lv66 Tryz.prog Tryz.f66.results.toList=some mr66:=by kernel_rfl
theorem call66:CallT Tryz.prog 66 17 mc66 mr66:=acall_mc (by kernel_rfl) Tryz.func66 mc66_eq Tryz.ntmps66 (by kernel_rfl) mr66_eq
/- laws.markText -/
def lv67:List Nat:=[0,2,3,5,7]
def mc67:MC :=
.seq (.reg [
 iL 2 (.mv (.c (.p (.s []))))]) (
 .seq (.seq (.reg [
 iT 4 (.mv (.l 0)),iL 5 (.bin .leq (.t 4) (cI 0))]) (
 .cond (.l 5) (
 .seq (.reg [
 iL 2 (.mv (.c (.p (.s [109,48]))))]) (
 .ret)) (
 .skip))) (
 .seq (.reg [
 iL 3 (.mv (.c (.p (.s []))))]) (
 .seq (.blk 0 (
 .loop (
 .seq (.seq (.reg [
 iT 6 (.mv (.l 0)),iL 7 (.bin .gtr (.t 6) (cI 0))]) (
 .cond (.l 7) (
 .skip) (
 .exit 0))) (
 .blk 1 (
 .seq (.reg [
 iT 8 (.mv (.l 0)),iT 9 (.bin .rem (.t 8) (cI 10)),iT 10 (.bin .add (cI 48) (.t 9)),iT 11 (.conv .u8 (.t 10)),iT 12 (.bsl 1 [.p (.i .u8 0)] 1 [(0,(.t 11))]),iT 13 (.b2s (.t 12)),iT 14 (.mv (.l 3)),iT 15 (.bin .add (.t 13) (.t 14)),iL 3 (.mv (.t 15))]) (
 .reg [
 iT 16 (.mv (.l 0)),iT 17 (.bin .quo (.t 16) (cI 10)),iL 0 (.mv (.t 17))])))))) (
 .seq (.reg [
 iT 18 (.mv (.l 3)),iT 19 (.bin .add (.c (.p (.s [109]))) (.t 18)),iL 2 (.mv (.t 19))]) (
 .ret)))))
theorem mc67_eq:(Tryz.f67.body.map (compile lv67 Tryz.prog 20))=some mc67:=by kernel_rfl
def mr67:List MR:=[.t 2]
theorem mr67_eq:cRess lv67 Tryz.prog Tryz.f67.results.toList=some mr67:=by kernel_rfl
theorem call67:CallT Tryz.prog 67 20 mc67 mr67:=acall_mc (by kernel_rfl) Tryz.func67 mc67_eq Tryz.ntmps67 (by kernel_rfl) mr67_eq
/- laws.markPatS -/
def lv68:List Nat:=[0,1,4,5,9]
def mc68:MC :=
.seq (.reg [
 iL 4 (.mv (cI 0))]) (
 .seq (.seq (.reg [
 iL 5 (.mv (cI 0))]) (
 .blk 0 (
 .loop (
 .seq (.seq (.reg [
 iT 6 (.mv (.l 5)),iT 7 (.mv (.l 0)),iT 8 (.len false (.t 7)),iL 9 (.bin .lss (.t 6) (.t 8))]) (
 .cond (.l 9) (
 .skip) (
 .exit 0))) (
 .seq (.blk 1 (
 .seq (.reg [
 iT 12 (.mv (.l 0)),iT 13 (.mv (.l 5)),iT 14 (.mv (.l 1)),iT 15 (.ixs 5 (.t 12) (.t 13)),iT 16 (.fad 0 (.t 15)),iN (.sto 1 (.t 16) (.t 14))]) (
 .seq (.reg [
 iT 17 (.mv (.l 1)),iT 18 (.bin .add (.t 17) (cI 1)),iL 1 (.mv (.t 18))]) (
 .seq (.reg [
 iT 19 (.mv (.l 0)),iT 20 (.mv (.l 5)),iT 21 (.mv (.l 1)),iT 22 (.call 67 [.t 21]),iT 23 (.ixs 5 (.t 19) (.t 20)),iT 24 (.fad 1 (.t 23)),iN (.sto 1 (.t 24) (.t 22))]) (
 .seq (.reg [
 iT 25 (.mv (.l 1)),iT 26 (.bin .add (.t 25) (cI 1)),iL 1 (.mv (.t 26))]) (
 .seq (.reg [
 iT 27 (.mv (.l 0)),iT 28 (.mv (.l 5)),iT 29 (.mv (.l 1)),iT 30 (.ixs 5 (.t 27) (.t 28)),iT 31 (.fad 2 (.t 30)),iN (.sto 1 (.t 31) (.t 29))]) (
 .seq (.reg [
 iT 32 (.mv (.l 1)),iT 33 (.bin .add (.t 32) (cI 1)),iL 1 (.mv (.t 33))]) (
 .seq (.reg [
 iT 34 (.mv (.l 0)),iT 35 (.mv (.l 5)),iT 36 (.mv (.l 1)),iT 37 (.ixs 5 (.t 34) (.t 35)),iT 38 (.fad 3 (.t 37)),iN (.sto 1 (.t 38) (.t 36))]) (
 .seq (.reg [
 iT 39 (.mv (.l 1)),iT 40 (.bin .add (.t 39) (cI 1)),iL 1 (.mv (.t 40))]) (
 .reg [
 iT 41 (.mv (.l 0)),iT 42 (.mv (.l 5)),iT 43 (.ixs 5 (.t 41) (.t 42)),iT 44 (.fad 4 (.t 43)),iT 45 (.ld false 1 (.t 44)),iT 46 (.mv (.l 1)),iT 47 (.call 68 [.t 45,.t 46]),iL 1 (.mv (.t 47))])))))))))) (
 .reg [
 iT 10 (.mv (.l 5)),iT 11 (.bin .add (.t 10) (cI 1)),iL 5 (.mv (.t 11))])))))) (
 .seq (.reg [
 iT 48 (.mv (.l 1)),iL 4 (.mv (.t 48))]) (
 .ret)))
theorem mc68_eq:(Tryz.f68.body.map (compile lv68 Tryz.prog 49))=some mc68:=by kernel_rfl
def mr68:List MR:=[.t 4]
theorem mr68_eq:cRess lv68 Tryz.prog Tryz.f68.results.toList=some mr68:=by kernel_rfl
theorem call68:CallT Tryz.prog 68 49 mc68 mr68:=acall_mc (by kernel_rfl) Tryz.func68 mc68_eq Tryz.ntmps68 (by kernel_rfl) mr68_eq
/- laws.heldPatS -/
def lv69:List Nat:=[0,1,4,5,9,18,28,37,46,57]
def mc69:MC :=
.seq (.reg [
 iL 4 (.mv (cI 0))]) (
 .seq (.seq (.reg [
 iL 5 (.mv (cI 0))]) (
 .blk 0 (
 .loop (
 .seq (.seq (.reg [
 iT 6 (.mv (.l 5)),iT 7 (.mv (.l 0)),iT 8 (.len false (.t 7)),iL 9 (.bin .lss (.t 6) (.t 8))]) (
 .cond (.l 9) (
 .skip) (
 .exit 0))) (
 .seq (.blk 1 (
 .seq (.seq (.reg [
 iT 12 (.mv (.l 0)),iT 13 (.mv (.l 5)),iT 14 (.ixs 5 (.t 12) (.t 13)),iT 15 (.fad 0 (.t 14)),iT 16 (.ld false 1 (.t 15)),iT 17 (.mv (.l 1)),iL 18 (.bin .neq (.t 16) (.t 17))]) (
 .cond (.l 18) (
 .seq (.reg [
 iL 4 (.mv (cI (-1)))]) (
 .ret)) (
 .skip))) (
 .seq (.reg [
 iT 19 (.mv (.l 1)),iT 20 (.bin .add (.t 19) (cI 1)),iL 1 (.mv (.t 20))]) (
 .seq (.seq (.drw [
 iT 21 (.mv (.l 0)),iT 22 (.mv (.l 5)),iT 23 (.ixs 5 (.t 21) (.t 22)),iT 24 (.fad 1 (.t 23)),iT 25 (.ld false 1 (.t 24)),iT 26 (.mv (.l 1)),iT 27 (.call 67 [.t 26])] [
 iL 28 (.bin .neq (.t 25) (.t 27))]) (
 .cond (.l 28) (
 .seq (.reg [
 iL 4 (.mv (cI (-1)))]) (
 .ret)) (
 .skip))) (
 .seq (.reg [
 iT 29 (.mv (.l 1)),iT 30 (.bin .add (.t 29) (cI 1)),iL 1 (.mv (.t 30))]) (
 .seq (.seq (.reg [
 iT 31 (.mv (.l 0)),iT 32 (.mv (.l 5)),iT 33 (.ixs 5 (.t 31) (.t 32)),iT 34 (.fad 2 (.t 33)),iT 35 (.ld false 1 (.t 34)),iT 36 (.mv (.l 1)),iL 37 (.bin .neq (.t 35) (.t 36))]) (
 .cond (.l 37) (
 .seq (.reg [
 iL 4 (.mv (cI (-1)))]) (
 .ret)) (
 .skip))) (
 .seq (.reg [
 iT 38 (.mv (.l 1)),iT 39 (.bin .add (.t 38) (cI 1)),iL 1 (.mv (.t 39))]) (
 .seq (.seq (.reg [
 iT 40 (.mv (.l 0)),iT 41 (.mv (.l 5)),iT 42 (.ixs 5 (.t 40) (.t 41)),iT 43 (.fad 3 (.t 42)),iT 44 (.ld false 1 (.t 43)),iT 45 (.mv (.l 1)),iL 46 (.bin .neq (.t 44) (.t 45))]) (
 .cond (.l 46) (
 .seq (.reg [
 iL 4 (.mv (cI (-1)))]) (
 .ret)) (
 .skip))) (
 .seq (.reg [
 iT 47 (.mv (.l 1)),iT 48 (.bin .add (.t 47) (cI 1)),iL 1 (.mv (.t 48))]) (
 .seq (.reg [
 iT 49 (.mv (.l 0)),iT 50 (.mv (.l 5)),iT 51 (.ixs 5 (.t 49) (.t 50)),iT 52 (.fad 4 (.t 51)),iT 53 (.ld false 1 (.t 52)),iT 54 (.mv (.l 1)),iT 55 (.call 69 [.t 53,.t 54]),iL 1 (.mv (.t 55))]) (
 .seq (.reg [
 iT 56 (.mv (.l 1)),iL 57 (.bin .lss (.t 56) (cI 0))]) (
 .cond (.l 57) (
 .seq (.reg [
 iL 4 (.mv (cI (-1)))]) (
 .ret)) (
 .skip))))))))))))) (
 .reg [
 iT 10 (.mv (.l 5)),iT 11 (.bin .add (.t 10) (cI 1)),iL 5 (.mv (.t 11))])))))) (
 .seq (.reg [
 iT 58 (.mv (.l 1)),iL 4 (.mv (.t 58))]) (
 .ret)))
theorem mc69_eq:(Tryz.f69.body.map (compile lv69 Tryz.prog 59))=some mc69:=by kernel_rfl
def mr69:List MR:=[.t 4]
theorem mr69_eq:cRess lv69 Tryz.prog Tryz.f69.results.toList=some mr69:=by kernel_rfl
theorem call69:CallT Tryz.prog 69 59 mc69 mr69:=acall_mc (by kernel_rfl) Tryz.func69 mc69_eq Tryz.ntmps69 (by kernel_rfl) mr69_eq
/- laws.eqPat -/
def lv113:List Nat:=[0,1,2,3,4,9,14,19,24,30]
def mc113:MC :=
.seq (.reg [
 iL 2 (.box 5 (.l 0)),iL 3 (.box 5 (.l 1)),iL 4 (.mv (.c (.p (.b false))))]) (
 .seq (.seq (.reg [
 iT 5 (.fad 0 (.l 2)),iT 6 (.ld false 1 (.t 5)),iT 7 (.fad 0 (.l 3)),iT 8 (.ld false 1 (.t 7)),iL 9 (.bin .neq (.t 6) (.t 8))]) (
 .cond (.l 9) (
 .seq (.reg [
 iL 4 (.mv (.c (.p (.b false))))]) (
 .ret)) (
 .skip))) (
 .seq (.seq (.reg [
 iT 10 (.fad 1 (.l 2)),iT 11 (.ld false 1 (.t 10)),iT 12 (.fad 1 (.l 3)),iT 13 (.ld false 1 (.t 12)),iL 14 (.bin .neq (.t 11) (.t 13))]) (
 .cond (.l 14) (
 .seq (.reg [
 iL 4 (.mv (.c (.p (.b false))))]) (
 .ret)) (
 .skip))) (
 .seq (.seq (.reg [
 iT 15 (.fad 2 (.l 2)),iT 16 (.ld false 1 (.t 15)),iT 17 (.fad 2 (.l 3)),iT 18 (.ld false 1 (.t 17)),iL 19 (.bin .neq (.t 16) (.t 18))]) (
 .cond (.l 19) (
 .seq (.reg [
 iL 4 (.mv (.c (.p (.b false))))]) (
 .ret)) (
 .skip))) (
 .seq (.seq (.reg [
 iT 20 (.fad 3 (.l 2)),iT 21 (.ld false 1 (.t 20)),iT 22 (.fad 3 (.l 3)),iT 23 (.ld false 1 (.t 22)),iL 24 (.bin .neq (.t 21) (.t 23))]) (
 .cond (.l 24) (
 .seq (.reg [
 iL 4 (.mv (.c (.p (.b false))))]) (
 .ret)) (
 .skip))) (
 .seq (.seq (.reg [
 iT 25 (.fad 4 (.l 2)),iT 26 (.ld false 1 (.t 25)),iT 27 (.fad 4 (.l 3)),iT 28 (.ld false 1 (.t 27)),iT 29 (.call 171 [.t 26,.t 28]),iL 30 (.un .not (.t 29))]) (
 .cond (.l 30) (
 .seq (.reg [
 iL 4 (.mv (.c (.p (.b false))))]) (
 .ret)) (
 .skip))) (
 .seq (.reg [
 iL 4 (.mv (.c (.p (.b true))))]) (
 .ret)))))))
theorem mc113_eq:(Tryz.f113.body.map (compile lv113 Tryz.prog 31))=some mc113:=by kernel_rfl
def mr113:List MR:=[.t 4]
theorem mr113_eq:cRess lv113 Tryz.prog Tryz.f113.results.toList=some mr113:=by kernel_rfl
theorem call113:CallT Tryz.prog 113 31 mc113 mr113:=acall_mc (by kernel_rfl) Tryz.func113 mc113_eq Tryz.ntmps113 (by kernel_rfl) mr113_eq
/- laws.eqPatS -/
def lv171:List Nat:=[0,1,4,5,10,14,26]
def mc171:MC :=
.seq (.reg [
 iL 4 (.mv (.c (.p (.b false))))]) (
 .seq (.seq (.reg [
 iT 6 (.mv (.l 0)),iT 7 (.len false (.t 6)),iT 8 (.mv (.l 1)),iT 9 (.len false (.t 8)),iL 10 (.bin .neq (.t 7) (.t 9))]) (
 .cond (.l 10) (
 .seq (.reg [
 iL 4 (.mv (.c (.p (.b false))))]) (
 .ret)) (
 .skip))) (
 .seq (.seq (.reg [
 iL 5 (.mv (cI 0))]) (
 .blk 0 (
 .loop (
 .seq (.seq (.reg [
 iT 11 (.mv (.l 5)),iT 12 (.mv (.l 0)),iT 13 (.len false (.t 12)),iL 14 (.bin .lss (.t 11) (.t 13))]) (
 .cond (.l 14) (
 .skip) (
 .exit 0))) (
 .seq (.blk 1 (
 .seq (.drw [
 iT 17 (.mv (.l 0)),iT 18 (.mv (.l 5)),iT 19 (.ixs 5 (.t 17) (.t 18)),iT 20 (.ld true 5 (.t 19)),iT 21 (.mv (.l 1)),iT 22 (.mv (.l 5)),iT 23 (.ixs 5 (.t 21) (.t 22)),iT 24 (.ld true 5 (.t 23))] [
 iT 25 (.call 113 [.t 20,.t 24]),iL 26 (.un .not (.t 25))]) (
 .cond (.l 26) (
 .seq (.reg [
 iL 4 (.mv (.c (.p (.b false))))]) (
 .ret)) (
 .skip)))) (
 .reg [
 iT 15 (.mv (.l 5)),iT 16 (.bin .add (.t 15) (cI 1)),iL 5 (.mv (.t 16))])))))) (
 .seq (.reg [
 iL 4 (.mv (.c (.p (.b true))))]) (
 .ret))))
theorem mc171_eq:(Tryz.f171.body.map (compile lv171 Tryz.prog 27))=some mc171:=by kernel_rfl
def mr171:List MR:=[.t 4]
theorem mr171_eq:cRess lv171 Tryz.prog Tryz.f171.results.toList=some mr171:=by kernel_rfl
theorem call171:CallT Tryz.prog 171 27 mc171 mr171:=acall_mc (by kernel_rfl) Tryz.func171 mc171_eq Tryz.ntmps171 (by kernel_rfl) mr171_eq
end Go.Proofs.YtghcmccjchdgeaaGreatDoor.Mc
/- Trees that are compared (in part PgH's). -/
set_option linter.all false
namespace Go.Proofs.YtghcmccjchdgeaaGreatDoor.Pg
open Go.AM Mc Qp
abbrev av (cs:List PV):AV:=.st (cs.map .p)
theorem takeN_all {cs:List AV} {n:Nat} (h:cs.length=n):takeN n cs=some cs:=by
 have:=takeN_app' (a:=cs) (b:=[]) h
 simpa using this
theorem PatD.cells_len (t:PatD):t.cells.length=5:=by cases t; rfl
theorem ExpD.cells_len (t:ExpD):t.cells.length=7:=by cases t; rfl
theorem ArmD.cells_len (t:ArmD):t.cells.length=12:=by
 cases t; rw [ArmD.cells,List.length_append,PatD.cells_len,ExpD.cells_len]
def EqC (f:Nat) (x:AV):Prop:=∀ H,ACall Tryz.prog f [x,x] H (pureQ (.p (.b true)) H)
theorem eqL_Pat {l:List PatD} (he:∀ a∈l,EqC 113 (av (PatD.cells a))):EqC 171 (.p (.l (l.map PatD.cells))):=by
 intro H
 refine call171 (by simp) ?_
 have d0:decide ((l.length:Int)=(l.length:Int))=true:=by simp
 simp only [go_sem,reduceIte,↓reduceIte,sevalprocAttr,Z0,Z1,bytesOf,mc171,mr171,List.length_map,d0]
 intro hm hm2
 rw [maxLe] at hm
 refine ⟨Nat,[0,1,4,5],fun i st=>i≤l.length∧st=⟨[(0,.p (.l (l.map PatD.cells))),(1,.p (.l (l.map PatD.cells))),(4,.p (.b false)),(5,.p (.i .i64 i))],[],H⟩,fun i=>l.length - i,⟨0,?_⟩,?_⟩
 ·simp only [go_sem,reduceIte,↓reduceIte,sevalprocAttr,Z0,Z1,bytesOf]
  omega
 ·rintro i st ⟨hi,rfl⟩
  by_cases hlt:i<l.length
  ·have d1:decide ((i:Int)<(l.length:Int))=true:=by simp; omega
   have hg:(l.map PatD.cells)[i]?=some (PatD.cells l[i]):=by simp [hlt]
   have et:takeN 5 (List.map AV.p (PatD.cells l[i]))=some (List.map AV.p (PatD.cells l[i])):=takeN_all (by rw [List.length_map,PatD.cells_len])
   have ex:=wrN i (by omega)
   simp only [go_sem,reduceIte,↓reduceIte,sevalprocAttr,Z0,Z1,bytesOf,List.length_map,d1]
   intro _
   refine drw_same ?_
   simp only [go_sem,reduceIte,↓reduceIte,sevalprocAttr,Z0,Z1,bytesOf,hg,et,PatD.cells_len]
   refine acall_pure (he l[i] (List.getElem_mem hlt) _) ?_
   simp only [go_sem,reduceIte,↓reduceIte,sevalprocAttr,Z0,Z1,bytesOf,ex]
   exact ⟨i+1,⟨by omega,rfl⟩,by omega⟩
  ·have:i=l.length:=by omega
   subst this
   have d1:decide ((l.length:Int)<(l.length:Int))=false:=by simp
   simp only [go_sem,reduceIte,↓reduceIte,sevalprocAttr,Z0,Z1,bytesOf,List.length_map,d1]
   intro _
   exact ⟨rfl,rfl⟩
theorem eqL_Exp {l:List ExpD} (he:∀ a∈l,EqC 9 (av (ExpD.cells a))):EqC 32 (.p (.l (l.map ExpD.cells))):=by
 intro H
 refine call32 (by simp) ?_
 have d0:decide ((l.length:Int)=(l.length:Int))=true:=by simp
 simp only [go_sem,reduceIte,↓reduceIte,sevalprocAttr,Z0,Z1,bytesOf,mc32,mr32,List.length_map,d0]
 intro hm hm2
 rw [maxLe] at hm
 refine ⟨Nat,[0,1,4,5],fun i st=>i≤l.length∧st=⟨[(0,.p (.l (l.map ExpD.cells))),(1,.p (.l (l.map ExpD.cells))),(4,.p (.b false)),(5,.p (.i .i64 i))],[],H⟩,fun i=>l.length - i,⟨0,?_⟩,?_⟩
 ·simp only [go_sem,reduceIte,↓reduceIte,sevalprocAttr,Z0,Z1,bytesOf]
  omega
 ·rintro i st ⟨hi,rfl⟩
  by_cases hlt:i<l.length
  ·have d1:decide ((i:Int)<(l.length:Int))=true:=by simp; omega
   have hg:(l.map ExpD.cells)[i]?=some (ExpD.cells l[i]):=by simp [hlt]
   have et:takeN 7 (List.map AV.p (ExpD.cells l[i]))=some (List.map AV.p (ExpD.cells l[i])):=takeN_all (by rw [List.length_map,ExpD.cells_len])
   have ex:=wrN i (by omega)
   simp only [go_sem,reduceIte,↓reduceIte,sevalprocAttr,Z0,Z1,bytesOf,List.length_map,d1]
   intro _
   refine drw_same ?_
   simp only [go_sem,reduceIte,↓reduceIte,sevalprocAttr,Z0,Z1,bytesOf,hg,et,ExpD.cells_len]
   refine acall_pure (he l[i] (List.getElem_mem hlt) _) ?_
   simp only [go_sem,reduceIte,↓reduceIte,sevalprocAttr,Z0,Z1,bytesOf,ex]
   exact ⟨i+1,⟨by omega,rfl⟩,by omega⟩
  ·have:i=l.length:=by omega
   subst this
   have d1:decide ((l.length:Int)<(l.length:Int))=false:=by simp
   simp only [go_sem,reduceIte,↓reduceIte,sevalprocAttr,Z0,Z1,bytesOf,List.length_map,d1]
   intro _
   exact ⟨rfl,rfl⟩
theorem eqL_Arm {l:List ArmD} (he:∀ a∈l,EqC 66 (av (ArmD.cells a))):EqC 33 (.p (.l (l.map ArmD.cells))):=by
 intro H
 refine call33 (by simp) ?_
 have d0:decide ((l.length:Int)=(l.length:Int))=true:=by simp
 simp only [go_sem,reduceIte,↓reduceIte,sevalprocAttr,Z0,Z1,bytesOf,mc33,mr33,List.length_map,d0]
 intro hm hm2
 rw [maxLe] at hm
 refine ⟨Nat,[0,1,4,5],fun i st=>i≤l.length∧st=⟨[(0,.p (.l (l.map ArmD.cells))),(1,.p (.l (l.map ArmD.cells))),(4,.p (.b false)),(5,.p (.i .i64 i))],[],H⟩,fun i=>l.length - i,⟨0,?_⟩,?_⟩
 ·simp only [go_sem,reduceIte,↓reduceIte,sevalprocAttr,Z0,Z1,bytesOf]
  omega
 ·rintro i st ⟨hi,rfl⟩
  by_cases hlt:i<l.length
  ·have d1:decide ((i:Int)<(l.length:Int))=true:=by simp; omega
   have hg:(l.map ArmD.cells)[i]?=some (ArmD.cells l[i]):=by simp [hlt]
   have et:takeN 12 (List.map AV.p (ArmD.cells l[i]))=some (List.map AV.p (ArmD.cells l[i])):=takeN_all (by rw [List.length_map,ArmD.cells_len])
   have ex:=wrN i (by omega)
   simp only [go_sem,reduceIte,↓reduceIte,sevalprocAttr,Z0,Z1,bytesOf,List.length_map,d1]
   intro _
   refine drw_same ?_
   simp only [go_sem,reduceIte,↓reduceIte,sevalprocAttr,Z0,Z1,bytesOf,hg,et,ArmD.cells_len]
   refine acall_pure (he l[i] (List.getElem_mem hlt) _) ?_
   simp only [go_sem,reduceIte,↓reduceIte,sevalprocAttr,Z0,Z1,bytesOf,ex]
   exact ⟨i+1,⟨by omega,rfl⟩,by omega⟩
  ·have:i=l.length:=by omega
   subst this
   have d1:decide ((l.length:Int)<(l.length:Int))=false:=by simp
   simp only [go_sem,reduceIte,↓reduceIte,sevalprocAttr,Z0,Z1,bytesOf,List.length_map,d1]
   intro _
   exact ⟨rfl,rfl⟩
theorem eq_Pat (k:Int) (n:List UInt8) (u p:Int) (ks:List PatD) (hk:EqC 171 (.p (.l (PatD.cellsL ks)))):EqC 113 (av (PatD.cells (PatD.mk k n u p ks))):=by
 intro H
 refine acall_drop1 ?_ (tf_p _)
 refine call113 (by simp) ?_
 simp only [go_sem,reduceIte,↓reduceIte,sevalprocAttr,Z0,Z1,bytesOf,mc113,mr113,PatD.cells]
 refine acall_pure (hk _) ?_
 simp only [go_sem,reduceIte,↓reduceIte,sevalprocAttr,Z0,Z1,bytesOf]
 exact ⟨_,rfl⟩
theorem eq_Exp (k:Int) (n:List UInt8) (u:Int) (t:List UInt8) (p:Int) (ks:List ExpD) (as':List ArmD) (hk:EqC 32 (.p (.l (ExpD.cellsL ks)))) (ha:EqC 33 (.p (.l (ExpD.cellsA as')))):EqC 9 (av (ExpD.cells (ExpD.mk k n u t p ks as'))):=by
 intro H
 refine acall_drop1 ?_ (tf_p _)
 refine call9 (by simp) ?_
 simp only [go_sem,reduceIte,↓reduceIte,sevalprocAttr,Z0,Z1,bytesOf,mc9,mr9,ExpD.cells]
 refine acall_pure (hk _) ?_
 simp only [go_sem,reduceIte,↓reduceIte,sevalprocAttr,Z0,Z1,bytesOf]
 refine acall_pure (ha _) ?_
 simp only [go_sem,reduceIte,↓reduceIte,sevalprocAttr,Z0,Z1,bytesOf]
 exact ⟨_,rfl⟩
theorem eq_Arm {p:PatD} {e:ExpD} (hp:EqC 113 (av p.cells)) (he:EqC 9 (av e.cells)):EqC 66 (av (ArmD.cells (ArmD.mk p e))):=by
 intro H
 obtain ⟨pk,pn,pu,pp,pks⟩:=p
 obtain ⟨ek,en,eu,et,ep,eks,eas⟩:=e
 rw [av,PatD.cells] at hp
 rw [av,ExpD.cells] at he
 simp only [List.map_cons,List.map_nil] at hp he
 refine acall_drop1 ?_ (tf_p _)
 refine call66 (by simp) ?_
 simp only [go_sem,reduceIte,↓reduceIte,sevalprocAttr,Z0,Z1,bytesOf,mc66,mr66,ArmD.cells,PatD.cells,ExpD.cells]
 refine acall_pure (hp _) ?_
 simp only [go_sem,reduceIte,↓reduceIte,sevalprocAttr,Z0,Z1,bytesOf]
 refine acall_pure (he _) ?_
 simp only [go_sem,reduceIte,↓reduceIte,sevalprocAttr,Z0,Z1,bytesOf]
 exact ⟨_,rfl⟩
theorem eqPatA : ∀ (m : Nat) (t : PatD), t.sz < m → EqC 113 (av t.cells) := by
  intro m
  induction m with
  | zero => intro t h; omega
  | succ m ih =>
    intro t h
    obtain ⟨k, n, u, p, ks⟩ := t
    rw [PatD.sz, PatD.szL_eq] at h
    have := eq_Pat k n u p ks
    rw [PatD.cellsL_eq] at this
    exact this (eqL_Pat fun a ha => ih a (by have := sumSz_mem PatD.sz ha; omega))
theorem eqExpA : ∀ (m : Nat) (t : ExpD), t.sz < m → EqC 9 (av t.cells) := by
  intro m
  induction m with
  | zero => intro t h; omega
  | succ m ih =>
    intro t h
    obtain ⟨k, n, u, x, p, ks, as'⟩ := t
    rw [ExpD.sz, ExpD.szL_eq, ExpD.szA_eq] at h
    have := eq_Exp k n u x p ks as'
    rw [ExpD.cellsL_eq, ExpD.cellsA_eq] at this
    refine this (eqL_Exp fun a ha => ih a (by have := sumSz_mem ExpD.sz ha; omega)) (eqL_Arm fun a ha => ?_)
    have hm := sumSz_mem ArmD.sz ha
    obtain ⟨q, e⟩ := a
    rw [ArmD.sz] at hm
    exact eq_Arm (eqPatA _ q (Nat.lt_succ_self _)) (ih e (by omega))
end Go.Proofs.YtghcmccjchdgeaaGreatDoor.Pg
/- How great a parsed tree is: its marks, by its words. -/
set_option linter.all false
namespace Go.Proofs.YtghcmccjchdgeaaGreatDoor.Pg
open Go.AM
theorem mcC_app (a b:List TV):mcC (a++b)=mcC a+mcC b:=by
 induction a with
 | nil=>simp [mcC]
 | cons t a ih=>rw [List.cons_append,mcC,mcC,ih]; omega
structure Bx (T:List Tok) {α:Type} (m:PM α) (φ:α→Int):Prop where
 st:StayM T m
 le:∀ s,s.i<T.length→(m s).2.c=0→φ (m s).1+10 * (s.i:Int)≤10 * ((m s).2.i:Int)
section
variable {T:List Tok}
theorem stay_c {α:Type} {m:PM α} (h:StayM T m) {s:PS} (hi:s.i<T.length) (hc:(m s).2.c=0):s.c=0:=by
 rcases Decidable.em (s.c=0) with h0 | h0
 ·exact h0
 ·have:=(h s hi).2.2.1 h0; rw [this] at hc; exact hc
theorem bx_ret {α:Type} {a:α} {φ:α→Int} (h:φ a≤0):Bx T (retP a) φ:=⟨StayM.ret a,fun s hi hc=>by show φ a+_≤_; have:(retP a s).2=s:=rfl; rw [this]; omega⟩
theorem bx_mono {α:Type} {m:PM α} {φ ψ:α→Int} (h:Bx T m ψ) (k:∀ a,φ a≤ψ a):Bx T m φ:=⟨h.st,fun s hi hc=>by have:=h.le s hi hc; have:=k (m s).1; omega⟩
theorem bx_bind {α β:Type} {m:PM α} {k:α→PM β} {ψ:α→Int} {φ:β→Int} (h:Bx T m ψ) (hk:∀ a,Bx T (k a) (fun b=>φ b - ψ a)):Bx T (bindP m k) φ :=
 ⟨StayM.bind h.st fun a=>(hk a).st,fun s hi hc=>by
  have h1:=(h.st s hi).2.1
  have hc1:=stay_c (hk (m s).1).st h1 hc
  have e1:=h.le s hi hc1
  have e2:=(hk (m s).1).le _ h1 hc
  simp only [bindP_e] at *
  omega⟩
theorem bx_want (hT : ToksOk T) {α : Type} {x : List UInt8} {m : PM α} {φ : α → Int} (h : Bx T m (fun b => φ b - 10)) : Bx T (stepP (wantP T x) m) φ :=
  ⟨StayM.step (stay_want hT x) h.st, fun s hi hc => by
    have h1 := (stay_want hT x s hi).2.1
    have hc1 := stay_c h.st h1 hc
    have e2 := h.le _ h1 hc
    have hx : isT T x s = true := by
      cases hb : isT T x s with
      | true => rfl
      | false =>
        exfalso
        have : wantP T x s = failP T 11 s := by unfold wantP; rw [hb]; rfl
        rw [this] at hc1
        by_cases h0 : s.c = 0
        · rw [failP_0 h0] at hc1; exact absurd hc1 (show ¬ ((11 : Int) = 0) by decide)
        · rw [failP_c h0] at hc1; exact h0 hc1
    have ew : wantP T x s = adv s := by unfold wantP; rw [if_pos hx]
    simp only [stepP_e] at *
    rw [ew] at e2 ⊢
    simp only [adv] at *
    omega⟩
theorem bx_end {α:Type} {m:PM α} {φ:α→Int} (h:Bx T m φ):Bx T (stepP (endP T) m) φ :=
 ⟨StayM.step (stay_end T) h.st,fun s hi hc=>by
  have h1:=stay_end T s hi
  have e2:=h.le _ h1.2.1 hc
  have:=h1.1
  simp only [stepP_e] at *
  omega⟩
theorem bx_now {α:Type} {k:Tok→PM α} {φ:α→Int} (h:∀ t,Bx T (k t) φ):Bx T (nowP T k) φ:=⟨StayM.now fun t=>(h t).st,fun s hi hc=>(h (tokA T s)).le s hi hc⟩
theorem bx_iteG (hT : ToksOk T) {α : Type} {g : PS → Bool} {m1 m2 : PM α} {φ : α → Int} (hg : Only T g) (h1 : Bx T m1 (fun b => φ b - 10)) (h2 : Bx T m2 φ) : Bx T (iteG g m1 m2) φ :=
  ⟨StayM.iteG hT hg h1.st h2.st, fun s hi hc => by
    cases hb : g s with
    | true =>
      rw [iteG_t hb] at hc ⊢
      have := h1.le (adv s) (by simpa [adv] using adv_at hT hi (hg s hb).2) hc
      simp only [adv] at *
      omega
    | false =>
      rw [iteG_f hb] at hc ⊢
      exact h2.le s hi hc⟩
theorem bx_iteB {α:Type} {g:PS→Bool} {m1 m2:PM α} {φ:α→Int} (h1:Bx T m1 φ) (h2:Bx T m2 φ):Bx T (iteB g m1 m2) φ :=
 ⟨StayM.iteB h1.st h2.st,fun s hi hc=>by
  cases hb:g s with
  | true=>rw [iteB_t hb] at hc ⊢; exact h1.le s hi hc
  | false=>rw [iteB_f hb] at hc ⊢; exact h2.le s hi hc⟩
theorem bx_bad {α:Type} {m1 m2:PM α} {φ:α→Int} (h1:StayM T m1) (h1':∀ s,(m1 s).2=s) (h2:Bx T m2 φ):Bx T (iteB (fun s=>!decide (s.c=0)) m1 m2) φ :=
 ⟨StayM.iteB h1 h2.st,fun s hi hc=>by
  by_cases h0:s.c=0
  ·have hb:(fun s:PS=>!decide (s.c=0)) s=false:=by simp [h0]
   rw [iteB_f hb] at hc ⊢; exact h2.le s hi hc
  ·have hb:(fun s:PS=>!decide (s.c=0)) s=true:=by simp [h0]
   rw [iteB_t hb,h1'] at hc; exact absurd hc h0⟩
theorem bx_word (hT : ToksOk T) {k : Int} (hk : k ≠ 8) : Bx T (wordP T k) (fun _ => 10) :=
  ⟨StayM.word hT hk, fun s hi hc => by
    cases hb : isK T k s with
    | true =>
      have e : wordP T k s = ((tokA T s).t, adv s) := by unfold wordP; rw [if_pos hb]
      rw [e]; simp only [adv]; omega
    | false =>
      exfalso
      have e : (wordP T k s).2 = failP T 11 s := by unfold wordP; rw [hb]; rfl
      rw [e] at hc
      by_cases h0 : s.c = 0
      · rw [failP_0 h0] at hc; exact absurd hc (show ¬ ((11 : Int) = 0) by decide)
      · rw [failP_c h0] at hc; exact h0 hc⟩
theorem bx_deep {α:Type} {most d:Nat} {z:α} {m:PM α} {φ:α→Int} (h:Bx T m φ):Bx T (deepP T most d z m) φ :=
 ⟨StayM.deep h.st,fun s hi hc=>by
  have h1:=stay_deeper T most d s hi
  unfold deepP at *
  by_cases h0:(deeperP T most d s).c=0
  ·rw [if_pos h0] at hc ⊢
   have:=h.le _ h1.2.1 hc
   have:=h1.1
   omega
  ·rw [if_neg h0] at hc
   exact absurd hc h0⟩
def sumI {α:Type} (ψ:α→Int):List α→Int
 | []=>0
 | a :: l=>ψ a+sumI ψ l
theorem bx_manyA (hT : ToksOk T) {α : Type} {g : PS → Bool} {m : PM α} {ψ : α → Int} (hg : Only T g) (hm : Bx T m ψ) (n : Nat) : Bx T (many g (advP m) n) (fun l => sumI (fun a => ψ a + 10) l) :=
  ⟨StayM.manyA hT hg hm.st n, by
    induction n with
    | zero => intro s hi hc; show sumI _ [] + _ ≤ _; rw [sumI]; show 0 + 10 * (s.i : Int) ≤ 10 * (s.i : Int); omega
    | succ n ih =>
      intro s hi hc
      cases hb : g s with
      | false => rw [many_c hb]; show sumI _ [] + _ ≤ _; rw [sumI]; show 0 + 10 * (s.i : Int) ≤ 10 * (s.i : Int); omega
      | true =>
        have h0 : (adv s).i < T.length := by simpa [adv] using adv_at hT hi (hg s hb).2
        have h1 := (hm.st _ h0).2.1
        have e : many g (advP m) (n + 1) s = ((m (adv s)).1 :: (many g (advP m) n (m (adv s)).2).1, (many g (advP m) n (m (adv s)).2).2) := by rw [many, if_pos hb]; rfl
        rw [e] at hc ⊢
        have hc1 := stay_c (StayM.manyA hT hg hm.st n) h1 hc
        have e1 := hm.le _ h0 hc1
        have e2 := ih _ h1 hc
        simp only [sumI, adv] at *
        omega⟩
theorem bx_carry {α : Type} {g : PS → Bool} {m : α → PM α} {φ : α → Int} (hg : Only T g) (hm : ∀ a, Bx T (m a) (fun b => φ b - φ a)) (n : Nat) (a : α) : Bx T (carry g m n a) (fun b => φ b - φ a) :=
  ⟨StayM.carry hg (fun a => (hm a).st) n a, by
    induction n generalizing a with
    | zero => intro s hi hc; show φ a - φ a + 10 * (s.i : Int) ≤ 10 * (s.i : Int); omega
    | succ n ih =>
      intro s hi hc
      cases hb : g s with
      | false => rw [carry_c hb]; show φ a - φ a + 10 * (s.i : Int) ≤ 10 * (s.i : Int); omega
      | true =>
        have h1 := ((hm a).st s hi).2.1
        have e : carry g m (n + 1) a s = carry g m n (m a s).1 (m a s).2 := by rw [carry, if_pos hb]
        rw [e] at hc ⊢
        have hc1 := stay_c (StayM.carry hg (fun a => (hm a).st) n (m a s).1) h1 hc
        have e1 := (hm a).le s hi hc1
        have e2 := ih _ _ h1 hc
        omega⟩
end
def phP (p:PatD):Int:=(mcC p.tv:Int)+5
def phE (e:ExpD):Int:=(mcC e.tv:Int)+5
def phA (a:ArmD):Int:=(mcC a.tv:Int)+20
theorem sum_P (c:Int):∀ l:List PatD,sumI (fun a=>phP a+c) l=(mcR (l.map PatD.tv):Int)+(5+c) * l.length
 | []=>by simp [sumI,mcR]
 | a :: l=>by rw [sumI,sum_P c l]; simp only [phP,List.map_cons,mcR,List.length_cons]; push_cast; rw [Int.mul_add]; omega
theorem sum_E (c:Int):∀ l:List ExpD,sumI (fun a=>phE a+c) l=(mcR (l.map ExpD.tv):Int)+(5+c) * l.length
 | []=>by simp [sumI,mcR]
 | a :: l=>by rw [sumI,sum_E c l]; simp only [phE,List.map_cons,mcR,List.length_cons]; push_cast; rw [Int.mul_add]; omega
theorem sum_A (c:Int):∀ l:List ArmD,sumI (fun a=>phA a+c) l=(mcR (l.map ArmD.tv):Int)+(20+c) * l.length
 | []=>by simp [sumI,mcR]
 | a :: l=>by rw [sumI,sum_A c l]; simp only [phA,List.map_cons,mcR,List.length_cons]; push_cast; rw [Int.mul_add]; omega
theorem mc_pat (k n u p ks):mcC (PatD.tv (.mk k n u p ks))=4+mcR (ks.map PatD.tv):=by rw [PatD.tv,PatD.tvL_eq]; simp only [mcC,mcT]; omega
theorem mc_exp (k n u t p ks as'):mcC (ExpD.tv (.mk k n u t p ks as'))=5+(mcR (ks.map ExpD.tv)+mcR (as'.map ArmD.tv)):=by rw [ExpD.tv,ExpD.tvL_eq,ExpD.tvA_eq]; simp only [mcC,mcT]; omega
theorem mc_leaf (k n u t p):mcC (ExpD.tv (leaf k n u t p))=5:=by rw [leaf,mc_exp]; simp [mcR]
section
variable {T:List Tok} {N:Nat} (hT:ToksOk T)
include hT
theorem leP {k n u p}:phP (.mk k n u p [])≤10:=by simp only [phP,mc_pat]; simp [mcR]
theorem leE {k n u t p}:phE (leaf k n u t p)≤10:=by simp only [phE,mc_leaf]; omega
theorem bx_patBr {pat:PM PatD} (h:Bx T pat phP):Bx T (iPatBr T N pat) phP :=
 bx_now fun t=>bx_want hT <| bx_iteG hT (only_isT T _) (bx_ret (by have:=leP hT (k:=5) (n:=[]) (u:=0) (p:=t.p); omega)) <|
  bx_bad (StayM.ret _) (fun _=>rfl) <| bx_bind h fun a=>bx_bind (bx_manyA hT (only_isT T _) h N) fun l=>bx_want hT <| bx_ret (by
   rw [sum_P]
   split
   ·rename_i h0; subst h0; simp only [List.map_nil,mcR,List.length_nil]; omega
   ·simp only [phP,mc_pat,List.map_cons,mcR]; push_cast; omega)
theorem bx_patA {pat:PM PatD} (h:Bx T pat phP):Bx T (iPatA T N pat) phP :=
 bx_now fun t=>bx_iteG hT (only_isT T _) (bx_ret (by have:=leP hT (k:=1) (n:=[]) (u:=0) (p:=t.p); omega)) <|
  bx_iteG hT (only_isK T (by decide)) (bx_ret (by have:=leP hT (k:=2) (n:=t.t) (u:=0) (p:=t.p); omega)) <|
  bx_iteG hT (only_isK T (by decide)) (bx_ret (by have:=leP hT (k:=3) (n:=[]) (u:=t.n) (p:=t.p); omega)) <|
  bx_iteG hT (only_isT T _) (bx_ret (by have:=leP hT (k:=4) (n:=[]) (u:=1) (p:=t.p); omega)) <|
  bx_iteG hT (only_isT T _) (bx_ret (by have:=leP hT (k:=4) (n:=[]) (u:=0) (p:=t.p); omega)) <|
  bx_iteG hT (only_isK T (by decide)) (bx_ret (by have:=leP hT (k:=7) (n:=t.t) (u:=0) (p:=t.p); omega)) (bx_patBr hT h)
theorem bx_pat1 {most d:Nat} {pat:PM PatD} (h:Bx T pat phP):Bx T (iPatB T N most pat d) phP :=
 bx_deep <| bx_now fun t=>bx_iteG hT (only_isK T (by decide)) (bx_iteB (bx_bind (bx_patA hT h) fun a=>bx_ret (by simp only [phP,mc_pat,List.map_cons,List.map_nil,mcR]; push_cast; omega)) (bx_ret (by have:=leP hT (k:=7) (n:=t.t) (u:=0) (p:=t.p); omega))) (bx_patA hT h)
theorem bx_pat {most : Nat} : ∀ k d, 0 < k → most + 2 ≤ d + k → Bx T (iPat T N most k d) phP
  | 0, d, h, _ => absurd h (by omega)
  | k + 1, d, _, hk => by
    rcases Nat.lt_or_ge most d with hd | hd
    · exact ⟨stay_iPat hT most (k + 1) d, fun s hi hc => by
        exfalso
        rw [iPat] at hc
        unfold iPatB deepP at hc
        have hne : (deeperP T most d s).c ≠ 0 := by
          unfold deeperP
          simp only [if_pos hd]
          by_cases h0 : s.c = 0
          · rw [failP_0 h0, if_neg (show ¬ ((12 : Int) = 0) by decide)]; exact (by decide : (12 : Int) ≠ 0)
          · rw [failP_c h0, if_neg h0]; exact h0
        rw [if_neg hne] at hc
        exact hne hc⟩
    · rw [iPat]; exact bx_pat1 hT (bx_pat k (d + 1) (by omega) (by omega))
theorem bx_br {ex:PM ExpD} (h:Bx T ex phE):Bx T (iBr T N ex) phE :=
 bx_now fun t=>bx_want hT <| bx_iteG hT (only_isT T _) (bx_ret (by have:=leE hT (k:=4) (n:=[]) (u:=0) (t:=[]) (p:=t.p); omega)) <|
  bx_bad (StayM.ret _) (fun _=>rfl) <| bx_bind h fun a=>bx_bind (bx_manyA hT (only_isT T _) h N) fun l=>bx_want hT <| bx_ret (by
   rw [sum_E]
   split
   ·rename_i h0; subst h0; simp only [List.map_nil,mcR,List.length_nil]; omega
   ·simp only [phE,mc_exp,List.map_cons,List.map_nil,mcR]; push_cast; omega)
theorem bx_atom {ex:PM ExpD} (h:Bx T ex phE):Bx T (iAtom T N ex) phE :=
 bx_now fun t=>bx_iteG hT (only_isK T (by decide)) (bx_ret (by have:=leE hT (k:=1) (n:=[]) (u:=t.n) (t:=[]) (p:=t.p); omega)) <|
  bx_iteG hT (only_isK T (by decide)) (bx_ret (by have:=leE hT (k:=2) (n:=[]) (u:=0) (t:=t.t) (p:=t.p); omega)) <|
  bx_iteG hT (only_isT T _) (bx_ret (by have:=leE hT (k:=3) (n:=[]) (u:=1) (t:=[]) (p:=t.p); omega)) <|
  bx_iteG hT (only_isT T _) (bx_ret (by have:=leE hT (k:=3) (n:=[]) (u:=0) (t:=[]) (p:=t.p); omega)) <|
  bx_iteG hT (only_isK T (by decide)) (bx_ret (by have:=leE hT (k:=5) (n:=t.t) (u:=0) (t:=[]) (p:=t.p); omega)) <|
  bx_iteG hT (only_isK T (by decide)) (bx_ret (by have:=leE hT (k:=6) (n:=t.t) (u:=0) (t:=[]) (p:=t.p); omega)) <|
  bx_iteG hT (only_isT T _) (bx_ret (by have:=leE hT (k:=15) (n:=t.t) (u:=0) (t:=[]) (p:=t.p); omega)) (bx_br hT h)
theorem nd1 (k n p a):phE (node1 k n p a)=phE a+5:=by simp only [phE,node1,mc_exp,List.map_cons,List.map_nil,mcR]; push_cast; omega
theorem nd2 (k n p a b):phE (node2 k n p a b)=phE a+phE b:=by simp only [phE,node2,mc_exp,List.map_cons,List.map_nil,mcR]; push_cast; omega
theorem bx_pre {ex:PM ExpD} (h:Bx T ex phE):Bx T (iPre T N ex) phE :=
 bx_now fun t=>bx_iteG hT only_primT (bx_bind (bx_atom hT h) fun a=>bx_ret (by rw [nd1 hT]; omega)) <|
  bx_iteG hT (only_isK T (by decide)) (bx_iteB (bx_bind (bx_atom hT h) fun a=>bx_ret (by rw [nd1 hT]; omega)) (bx_ret (by have:=leE hT (k:=6) (n:=t.t) (u:=0) (t:=[]) (p:=t.p); omega))) (bx_atom hT h)
theorem bx_app {ex:PM ExpD} (h:Bx T ex phE):Bx T (iApp T N ex) phE :=
 bx_bind (bx_pre hT h) fun a=>bx_carry only_atNx (fun a=>bx_bind (bx_atom hT h) fun b=>bx_ret (by rw [nd2 hT]; omega)) N a
theorem bx_rowG {L : List (List UInt8)} {side : PM ExpD} (h : Bx T side phE) (a : ExpD) : Bx T (rowG T N L side a) (fun b => phE b - phE a) := by
  refine ⟨stay_rowG hT h.st, ?_⟩
  unfold rowG
  induction N generalizing a with
  | zero => intro s hi hc; show phE a - phE a + 10 * (s.i : Int) ≤ 10 * (s.i : Int); omega
  | succ n ih =>
    intro s hi hc
    cases hb : opT T L s with
    | false => rw [carry_c hb]; show phE a - phE a + 10 * (s.i : Int) ≤ 10 * (s.i : Int); omega
    | true =>
      have h0 : (adv s).i < T.length := by simpa [adv] using adv_at hT hi (only_opT L s hb).2
      have h1 := (h.st _ h0).2.1
      have e : carry (opT T L) (fun a => nowP T fun t => advP (bindP side fun b => retP (node2 14 t.t t.p a b))) (n + 1) a s = carry (opT T L) (fun a => nowP T fun t => advP (bindP side fun b => retP (node2 14 t.t t.p a b))) n (node2 14 (tokA T s).t (tokA T s).p a (side (adv s)).1) (side (adv s)).2 := by rw [carry, if_pos hb]; rfl
      rw [e] at hc ⊢
      have hc1 := stay_c (stay_rowG (N := n) (L := L) (a := node2 14 (tokA T s).t (tokA T s).p a (side (adv s)).1) hT h.st) h1 hc
      have e1 := h.le _ h0 hc1
      have e2 := ih _ _ h1 hc
      rw [nd2 hT] at e2
      simp only [adv] at *
      omega
theorem bx_row1 {ex:PM ExpD} (h:Bx T ex phE):Bx T (iRow1 T N ex) phE:=bx_bind (bx_app hT h) fun a=>bx_rowG hT (bx_app hT h) a
theorem bx_row0 {ex:PM ExpD} (h:Bx T ex phE):Bx T (iRow0 T N ex) phE:=bx_bind (bx_row1 hT h) fun a=>bx_rowG hT (bx_row1 hT h) a
theorem bx_onceG {g:PS→Bool} (hg:Only T g) {side:PM ExpD} (h:Bx T side phE) (a:ExpD):Bx T (onceG T g side a) (fun b=>phE b - phE a) :=
 bx_now fun t=>bx_iteG hT hg (bx_bind h fun b=>bx_ret (by rw [nd2 hT]; omega)) (bx_ret (by omega))
theorem bx_once1 {ex:PM ExpD} (h:Bx T ex phE):Bx T (iOnce1 T N ex) phE:=bx_bind (bx_row0 hT h) fun a=>bx_onceG hT ((only_isT T _).or (only_isT T _)) (bx_row0 hT h) a
theorem bx_once0 {ex:PM ExpD} (h:Bx T ex phE):Bx T (iOnce0 T N ex) phE:=bx_bind (bx_once1 hT h) fun a=>bx_onceG hT (only_isT T _) (bx_once1 hT h) a
theorem bx_let {ex:PM ExpD} (h:Bx T ex phE) (p:Int):Bx T (letP T ex p) phE :=
 bx_iteG hT (only_isT T _)
  (bx_bind (bx_word hT (by decide)) fun n=>bx_bind (bx_word hT (by decide)) fun f=>bx_want hT <| bx_bind h fun a=>bx_want hT <| bx_bind h fun b=>bx_ret (by simp only [phE,mc_exp,List.map_cons,List.map_nil,mcR]; push_cast; omega))
  (bx_bind (bx_word hT (by decide)) fun n=>bx_want hT <| bx_bind h fun a=>bx_want hT <| bx_bind h fun b=>bx_ret (by simp only [phE,mc_exp,List.map_cons,List.map_nil,mcR]; push_cast; omega))
theorem bx_fun {ex:PM ExpD} (h:Bx T ex phE) (p:Int):Bx T (funP T ex p) phE :=
 bx_bind (bx_word hT (by decide)) fun n=>bx_want hT <| bx_bind h fun a=>bx_ret (by rw [nd1 hT]; omega)
theorem bx_ifP {ex:PM ExpD} (h:Bx T ex phE) (p:Int):Bx T (ifP T ex p) phE :=
 bx_bind h fun a=>bx_want hT <| bx_bind h fun b=>bx_want hT <| bx_bind h fun c=>bx_ret (by simp only [phE,mc_exp,List.map_cons,List.map_nil,mcR]; push_cast; omega)
theorem bx_arm {pat:PM PatD} {ex:PM ExpD} (hp:Bx T pat phP) (h:Bx T ex phE):Bx T (armP T pat ex) phA :=
 bx_bind hp fun a=>bx_want hT <| bx_bind h fun b=>bx_ret (by simp only [phA,phP,phE,ArmD.tv,mcC_app]; push_cast; omega)
theorem bx_match {pat:PM PatD} {ex:PM ExpD} (hp:Bx T pat phP) (h:Bx T ex phE) (p:Int):Bx T (iMatch T N pat ex p) phE :=
 bx_bind h fun a=>bx_want hT <| bx_want hT <| bx_bind (ψ:=fun l=>sumI phA l) (m:=iteB (fun s=>decide (s.c=0)) (armsP T N (armP T pat ex)) (retP []))
  (bx_iteB (bx_bind (bx_arm hT hp h) fun a=>bx_bind (bx_manyA hT (only_isT T _) (bx_arm hT hp h) N) fun l=>bx_ret (by
   have e1:=sum_A 10 l
   have e2:=sum_A 0 l
   simp only [Int.add_zero] at e2
   simp only [sumI,e1,e2]
   omega)) (bx_ret (by simp [sumI])))
  fun l=>bx_want hT <| bx_ret (by
   have e2:=sum_A 0 l
   simp only [Int.add_zero] at e2
   rw [e2]
   simp only [phE,mc_exp,List.map_cons,List.map_nil,mcR]; push_cast; omega)
theorem bx_exp1 {most d:Nat} {pat:PM PatD} {ex:PM ExpD} (hp:Bx T pat phP) (h:Bx T ex phE):Bx T (iExpB T N most pat ex d) phE :=
 bx_deep <| bx_now fun t=>bx_iteG hT (only_isT T _) (bx_mono (bx_let hT h t.p) fun a=>by omega) <| bx_iteG hT (only_isT T _) (bx_mono (bx_fun hT h t.p) fun a=>by omega) <|
  bx_iteG hT (only_isT T _) (bx_mono (bx_ifP hT h t.p) fun a=>by omega) <| bx_iteG hT (only_isT T _) (bx_mono (bx_match hT hp h t.p) fun a=>by omega) (bx_once0 hT h)
theorem deep_bad {α:Type} {most d:Nat} {z:α} {m:PM α} {s:PS} (hd:most<d):¬ (deepP T most d z m s).2.c=0:=by
 have hne:(deeperP T most d s).c≠0:=by
  unfold deeperP
  simp only [if_pos hd]
  by_cases h0:s.c=0
  ·rw [failP_0 h0,if_neg (show ¬ ((12:Int)=0) by decide)]; exact (by decide:(12:Int)≠0)
  ·rw [failP_c h0,if_neg h0]; exact h0
 unfold deepP
 rw [if_neg hne]
 exact hne
theorem bx_exp {most : Nat} : ∀ k d, 0 < k → most + 2 ≤ d + k → Bx T (iExp T N most k d) phE
  | 0, d, h, _ => absurd h (by omega)
  | k + 1, d, _, hk => by
    rcases Nat.lt_or_ge most d with hd | hd
    · exact ⟨stay_iExp hT most (k + 1) d, fun s hi hc => (deep_bad hT hd hc).elim⟩
    · rw [iExp]; exact bx_exp1 hT (bx_pat hT k (d + 1) (by omega) (by omega)) (bx_exp k (d + 1) (by omega) (by omega))
end
end Go.Proofs.YtghcmccjchdgeaaGreatDoor.Pg
/- Marks of trees that are written, and found again (printed in part by wip/tools/genmark.py). -/
set_option linter.all false
namespace Go.Proofs.YtghcmccjchdgeaaGreatDoor.Pg
open Go.AM Mc Qp
theorem markText (k : Int) (hk0 : 0 ≤ k) (hk : k ≤ 1000000000) : ACall Tryz.prog 67 [.p (.i .i64 k)] [] (fun r H => r = .p (.s (textM k))) := by
  refine call67 (by simp) ?_
  simp only [go_sem, reduceIte, ↓reduceIte, sevalprocAttr, Z0, Z1, bytesOf, mc67, mr67]
  by_cases hc' : k ≤ 0
  · simp only [go_sem, reduceIte, ↓reduceIte, sevalprocAttr, Z0, Z1, bytesOf, dT hc']
    simp [textM, hc']
  · simp only [go_sem, reduceIte, ↓reduceIte, sevalprocAttr, Z0, Z1, bytesOf, dF hc']
    refine ⟨Int × List UInt8 × List AO, [0, 2, 3], fun x st => (0 ≤ x.1 ∧ x.1 ≤ 1000000000 ∧ (x.2.1.length : Int) + x.1 ≤ k ∧ (∃ f : Nat, x.1.toNat ≤ f ∧ mdigs f x.1 x.2.1 = mdigs k.toNat k [])) ∧ st = ⟨[(0, .p (.i .i64 x.1)), (2, .p (.s [])), (3, .p (.s x.2.1))], [], x.2.2⟩, fun x => x.1.toNat, ⟨⟨k, [], []⟩, ?_⟩, ?_⟩
    · simp only [go_sem, reduceIte, ↓reduceIte, sevalprocAttr, Z0, Z1, bytesOf]
      exact ⟨hk0, hk, by simp, ⟨_, Nat.le_refl _, rfl⟩⟩
    · rintro ⟨n, s, G⟩ st ⟨⟨h0, h1, h2, ⟨f, hf, hd0⟩⟩, rfl⟩
      simp only at h0 h1 h2 hf hd0
      by_cases hd' : 0 < n
      · have hlen : (n.tdiv 10) < n ∧ 0 ≤ n.tdiv 10 := by
          rw [Int.tdiv_eq_ediv_of_nonneg h0]; omega
        simp only [go_sem, reduceIte, ↓reduceIte, sevalprocAttr, Z0, Z1, bytesOf, dT hd']
        refine ⟨by rw [maxLe]; omega, ?_⟩
        rw [wr64 (n := n.tdiv 10) (by omega) (by omega)]
        refine ⟨⟨n.tdiv 10, mdigit n :: s, _⟩, ⟨⟨hlen.2, by simp only; omega, ?_, ?_⟩, rfl⟩, ?_⟩
        · simp; omega
        · cases f with
          | zero => omega
          | succ f =>
            refine ⟨f, by simp only; omega, ?_⟩
            rw [← hd0, mdigs, if_pos hd']
        · simp; omega
      · have hz : n = 0 := by omega
        subst hz
        rw [mdigs_zero] at hd0
        simp only [go_sem, reduceIte, ↓reduceIte, sevalprocAttr, Z0, Z1, bytesOf]
        refine ⟨by rw [maxLe]; omega, ?_⟩
        rw [textM, if_neg hc', ← hd0]
theorem markTextP (k:Int) (hk0:0≤k) (hk:k≤1000000000) (H:List AO):ACall Tryz.prog 67 [.p (.i .i64 k)] H (pureQ (.p (.s (textM k))) H) :=
 (acall_lend (markText k hk0 hk) (fun r H' hr=>by subst hr; exact grnd_s _) (lentAll_cons (.pure _) (lentAll_nil _))).mono fun r H' ⟨h1,_,h2⟩=>⟨h2,h1⟩
theorem wrK {k:Int} (h0:0≤k) (h:k≤1000000000):wr .i64 (k+1)=k+1:=wr64 (by omega) (by omega)
theorem mark_PatS {rows:List (List TV)} (sh:∀ r∈rows,∃ (v0:Int) (v1:List UInt8) (v2:Int) (v3:Int) (v4:List (List TV)),r=([.p (.i .i64 v0),.p (.s v1),.p (.i .i64 v2),.p (.i .i64 v3),.s 5 v4]:List TV)∧(MarkC Tryz.prog 68 5 v4∧v4.length≤1048576)):MarkC Tryz.prog 68 5 rows:=by
 intro H a ids k hO hN hk0 hk hn
 refine call68 (by simp) ?_
 have hO':=hO
 rw [Own] at hO'
 rcases hO' with ⟨rfl,rfl,rfl⟩ | ⟨id,ver,rs,js,rfl,rfl,h1,h2⟩
 ·simp only [go_sem,reduceIte,↓reduceIte,sevalprocAttr,Z0,Z1,bytesOf,mc68,mr68]
  refine ⟨Unit,[0,1,4,5],fun _ st=>st=⟨[(0,.p .nl),(1,.p (.i .i64 k)),(4,.p (.i .i64 0)),(5,.p (.i .i64 0))],[],H⟩,fun _=>0,⟨(),rfl⟩,?_⟩
  rintro _ _ rfl
  simp only [go_sem,reduceIte,↓reduceIte,sevalprocAttr,Z0,Z1,bytesOf]
  refine ⟨by simp [mcR],?_,fun i _=>trivial⟩
  rw [mkR]; exact hO
 ·have hlen:=h2.len
  generalize rs.length=N at hO hlen ⊢
  clear h1 h2
  subst hlen
  simp only [go_sem,reduceIte,↓reduceIte,sevalprocAttr,Z0,Z1,bytesOf,mc68,mr68]
  refine ⟨Nat × List AO,[0,1,4,5],fun x st=>(x.1≤rows.length∧MkI H x.2 5 id ver rows.length ((mkR (rows.take x.1) k).1++rows.drop x.1) (id :: js))∧st=⟨[(0,.gs id ver 0 rows.length),(1,.p (.i .i64 (k+mcR (rows.take x.1)))),(4,.p (.i .i64 0)),(5,.p (.i .i64 x.1))],[],x.2⟩,fun x=>rows.length - x.1,⟨(0,H),?_⟩,?_⟩
  ·simp only [go_sem,reduceIte,↓reduceIte,sevalprocAttr,Z0,Z1,bytesOf,List.take_zero,List.drop_zero,mkR,mcR]
   exact ⟨⟨Nat.zero_le _,hO,hN,rfl,fun _ _=>rfl⟩,by simp⟩
  ·rintro ⟨x,H0'⟩ _ ⟨⟨hx,M0⟩,rfl⟩
   simp only at hx M0
   by_cases hlt:x<rows.length
   ·have d1:decide ((x:Int)<(rows.length:Int))=true:=by simp; omega
    have hlt':((x:Int)<(rows.length:Int)):=by omega
    have X0:=mk_row hlt k
    have hE:=mk_rows hlt k
    have hS:=mcR_step rows x hlt
    have hB:=mcR_take rows (x+1)
    have hK0:0≤k+(mcR (rows.take x):Int):=by omega
    have ew:=wrN x (by omega)
    obtain ⟨v0,v1,v2,v3,v4,hs,⟨m4,n4⟩⟩:=sh rows[x] (List.getElem_mem hlt)
    rw [hs] at X0 hE hS
    generalize hkx:k+(mcR (rows.take x):Int)=kx at hE hK0 ⊢
    generalize (mkR (rows.take x) k).1++rows.drop x=R0 at X0 hE M0
    simp only [mcC,mcT] at hS
    simp only [go_sem,reduceIte,↓reduceIte,sevalprocAttr,Z0,Z1,bytesOf,d1]
    intro hml
    obtain ⟨rs0,Hn0,q0,e0,M1,X1⟩:=mk_sto M0 X0 (c:=0) rfl (.i .i64 (kx))
    simp only [go_sem,reduceIte,↓reduceIte,sevalprocAttr,Z0,Z1,bytesOf,q0]
    refine ⟨hlt',?_⟩
    rw [e0]
    simp only [go_sem,reduceIte,↓reduceIte,sevalprocAttr,Z0,Z1,bytesOf,wrK (k:=kx) (by omega) (by omega)]
    refine acall_pure (markTextP (kx+1) (by omega) (by omega) _) ?_
    obtain ⟨rs1,Hn1,q1,e1,M2,X2⟩:=mk_sto M1 X1 (c:=1) rfl (.s (textM (kx+1)))
    simp only [go_sem,reduceIte,↓reduceIte,sevalprocAttr,Z0,Z1,bytesOf,q1]
    refine ⟨hlt',?_⟩
    rw [e1]
    simp only [go_sem,reduceIte,↓reduceIte,sevalprocAttr,Z0,Z1,bytesOf,wrK (k:=kx+1) (by omega) (by omega)]
    obtain ⟨rs2,Hn2,q2,e2,M3,X3⟩:=mk_sto M2 X2 (c:=2) rfl (.i .i64 (kx+1+1))
    simp only [go_sem,reduceIte,↓reduceIte,sevalprocAttr,Z0,Z1,bytesOf,q2]
    refine ⟨hlt',?_⟩
    rw [e2]
    simp only [go_sem,reduceIte,↓reduceIte,sevalprocAttr,Z0,Z1,bytesOf,wrK (k:=kx+1+1) (by omega) (by omega)]
    obtain ⟨rs3,Hn3,q3,e3,M4,X4⟩:=mk_sto M3 X3 (c:=3) rfl (.i .i64 (kx+1+1+1))
    simp only [go_sem,reduceIte,↓reduceIte,sevalprocAttr,Z0,Z1,bytesOf,q3]
    refine ⟨hlt',?_⟩
    rw [e3]
    simp only [go_sem,reduceIte,↓reduceIte,sevalprocAttr,Z0,Z1,bytesOf,wrK (k:=kx+1+1+1) (by omega) (by omega)]
    obtain ⟨rs4,r4,kv4,js4,q4,qr4,ql4,qc4,qo4,qn4,put4⟩:=mk_call M4 X4 (c:=4) rfl
    obtain ⟨r4_0,r4_1,r4_2,r4_3,r4_4,rfl⟩:=len5 ql4
    obtain rfl:r4_4=kv4:=by simpa using qc4
    simp only [go_sem,reduceIte,↓reduceIte,sevalprocAttr,Z0,Z1,bytesOf,q4,qr4]
    refine ⟨hlt',?_⟩
    refine (m4 _ _ _ (kx+1+1+1+1) qo4 qn4 (by omega) (by omega) n4).mono ?_
    rintro _ Hn4 ⟨rfl,hl4,ho4,hf4⟩
    obtain ⟨M5,X5⟩:=put4 Hn4 _ hl4 ho4 hf4
    simp only [go_sem,reduceIte,↓reduceIte,sevalprocAttr,Z0,Z1,bytesOf]
    simp only [go_sem,reduceIte,↓reduceIte,sevalprocAttr,Z0,Z1,bytesOf,ew]
    refine ⟨(x+1,Hn4),⟨⟨by simp only; omega,?_⟩,?_⟩,by simp only; omega⟩
    ·simp only
     rw [← hE]
     simp only [List.set_set,List.set_cons_zero,List.set_cons_succ] at M5
     simpa only [mkC,mkT,mkR_cnt] using M5
    ·simp only
     rw [hS]
     simp
     omega
   ·have hx':x=rows.length:=by omega
    subst hx'
    have d1:decide ((rows.length:Int)<(rows.length:Int))=false:=by simp
    rw [List.take_length,List.drop_length,List.append_nil] at M0
    simp only [go_sem,reduceIte,↓reduceIte,sevalprocAttr,Z0,Z1,bytesOf,d1,List.take_length]
    intro _
    exact ⟨M0.len,M0.own,M0.fr⟩
theorem mark_ExpS {rows:List (List TV)} (sh:∀ r∈rows,∃ (v0:Int) (v1:List UInt8) (v2:Int) (v3:List UInt8) (v4:Int) (v5:List (List TV)) (v6:List (List TV)),r=([.p (.i .i64 v0),.p (.s v1),.p (.i .i64 v2),.p (.s v3),.p (.i .i64 v4),.s 7 v5,.s 12 v6]:List TV)∧(MarkC Tryz.prog 34 7 v5∧v5.length≤1048576)∧(MarkC Tryz.prog 35 12 v6∧v6.length≤1048576)):MarkC Tryz.prog 34 7 rows:=by
 intro H a ids k hO hN hk0 hk hn
 refine call34 (by simp) ?_
 have hO':=hO
 rw [Own] at hO'
 rcases hO' with ⟨rfl,rfl,rfl⟩ | ⟨id,ver,rs,js,rfl,rfl,h1,h2⟩
 ·simp only [go_sem,reduceIte,↓reduceIte,sevalprocAttr,Z0,Z1,bytesOf,mc34,mr34]
  refine ⟨Unit,[0,1,4,5],fun _ st=>st=⟨[(0,.p .nl),(1,.p (.i .i64 k)),(4,.p (.i .i64 0)),(5,.p (.i .i64 0))],[],H⟩,fun _=>0,⟨(),rfl⟩,?_⟩
  rintro _ _ rfl
  simp only [go_sem,reduceIte,↓reduceIte,sevalprocAttr,Z0,Z1,bytesOf]
  refine ⟨by simp [mcR],?_,fun i _=>trivial⟩
  rw [mkR]; exact hO
 ·have hlen:=h2.len
  generalize rs.length=N at hO hlen ⊢
  clear h1 h2
  subst hlen
  simp only [go_sem,reduceIte,↓reduceIte,sevalprocAttr,Z0,Z1,bytesOf,mc34,mr34]
  refine ⟨Nat × List AO,[0,1,4,5],fun x st=>(x.1≤rows.length∧MkI H x.2 7 id ver rows.length ((mkR (rows.take x.1) k).1++rows.drop x.1) (id :: js))∧st=⟨[(0,.gs id ver 0 rows.length),(1,.p (.i .i64 (k+mcR (rows.take x.1)))),(4,.p (.i .i64 0)),(5,.p (.i .i64 x.1))],[],x.2⟩,fun x=>rows.length - x.1,⟨(0,H),?_⟩,?_⟩
  ·simp only [go_sem,reduceIte,↓reduceIte,sevalprocAttr,Z0,Z1,bytesOf,List.take_zero,List.drop_zero,mkR,mcR]
   exact ⟨⟨Nat.zero_le _,hO,hN,rfl,fun _ _=>rfl⟩,by simp⟩
  ·rintro ⟨x,H0'⟩ _ ⟨⟨hx,M0⟩,rfl⟩
   simp only at hx M0
   by_cases hlt:x<rows.length
   ·have d1:decide ((x:Int)<(rows.length:Int))=true:=by simp; omega
    have hlt':((x:Int)<(rows.length:Int)):=by omega
    have X0:=mk_row hlt k
    have hE:=mk_rows hlt k
    have hS:=mcR_step rows x hlt
    have hB:=mcR_take rows (x+1)
    have hK0:0≤k+(mcR (rows.take x):Int):=by omega
    have ew:=wrN x (by omega)
    obtain ⟨v0,v1,v2,v3,v4,v5,v6,hs,⟨m5,n5⟩,⟨m6,n6⟩⟩:=sh rows[x] (List.getElem_mem hlt)
    rw [hs] at X0 hE hS
    generalize hkx:k+(mcR (rows.take x):Int)=kx at hE hK0 ⊢
    generalize (mkR (rows.take x) k).1++rows.drop x=R0 at X0 hE M0
    simp only [mcC,mcT] at hS
    simp only [go_sem,reduceIte,↓reduceIte,sevalprocAttr,Z0,Z1,bytesOf,d1]
    intro hml
    obtain ⟨rs0,Hn0,q0,e0,M1,X1⟩:=mk_sto M0 X0 (c:=0) rfl (.i .i64 (kx))
    simp only [go_sem,reduceIte,↓reduceIte,sevalprocAttr,Z0,Z1,bytesOf,q0]
    refine ⟨hlt',?_⟩
    rw [e0]
    simp only [go_sem,reduceIte,↓reduceIte,sevalprocAttr,Z0,Z1,bytesOf,wrK (k:=kx) (by omega) (by omega)]
    refine acall_pure (markTextP (kx+1) (by omega) (by omega) _) ?_
    obtain ⟨rs1,Hn1,q1,e1,M2,X2⟩:=mk_sto M1 X1 (c:=1) rfl (.s (textM (kx+1)))
    simp only [go_sem,reduceIte,↓reduceIte,sevalprocAttr,Z0,Z1,bytesOf,q1]
    refine ⟨hlt',?_⟩
    rw [e1]
    simp only [go_sem,reduceIte,↓reduceIte,sevalprocAttr,Z0,Z1,bytesOf,wrK (k:=kx+1) (by omega) (by omega)]
    obtain ⟨rs2,Hn2,q2,e2,M3,X3⟩:=mk_sto M2 X2 (c:=2) rfl (.i .i64 (kx+1+1))
    simp only [go_sem,reduceIte,↓reduceIte,sevalprocAttr,Z0,Z1,bytesOf,q2]
    refine ⟨hlt',?_⟩
    rw [e2]
    simp only [go_sem,reduceIte,↓reduceIte,sevalprocAttr,Z0,Z1,bytesOf,wrK (k:=kx+1+1) (by omega) (by omega)]
    refine acall_pure (markTextP (kx+1+1+1) (by omega) (by omega) _) ?_
    obtain ⟨rs3,Hn3,q3,e3,M4,X4⟩:=mk_sto M3 X3 (c:=3) rfl (.s (textM (kx+1+1+1)))
    simp only [go_sem,reduceIte,↓reduceIte,sevalprocAttr,Z0,Z1,bytesOf,q3]
    refine ⟨hlt',?_⟩
    rw [e3]
    simp only [go_sem,reduceIte,↓reduceIte,sevalprocAttr,Z0,Z1,bytesOf,wrK (k:=kx+1+1+1) (by omega) (by omega)]
    obtain ⟨rs4,Hn4,q4,e4,M5,X5⟩:=mk_sto M4 X4 (c:=4) rfl (.i .i64 (kx+1+1+1+1))
    simp only [go_sem,reduceIte,↓reduceIte,sevalprocAttr,Z0,Z1,bytesOf,q4]
    refine ⟨hlt',?_⟩
    rw [e4]
    simp only [go_sem,reduceIte,↓reduceIte,sevalprocAttr,Z0,Z1,bytesOf,wrK (k:=kx+1+1+1+1) (by omega) (by omega)]
    obtain ⟨rs5,r5,kv5,js5,q5,qr5,ql5,qc5,qo5,qn5,put5⟩:=mk_call M5 X5 (c:=5) rfl
    obtain ⟨r5_0,r5_1,r5_2,r5_3,r5_4,r5_5,r5_6,rfl⟩:=len7 ql5
    obtain rfl:r5_5=kv5:=by simpa using qc5
    simp only [go_sem,reduceIte,↓reduceIte,sevalprocAttr,Z0,Z1,bytesOf,q5,qr5]
    refine ⟨hlt',?_⟩
    refine (m5 _ _ _ (kx+1+1+1+1+1) qo5 qn5 (by omega) (by omega) n5).mono ?_
    rintro _ Hn5 ⟨rfl,hl5,ho5,hf5⟩
    obtain ⟨M6,X6⟩:=put5 Hn5 _ hl5 ho5 hf5
    simp only [go_sem,reduceIte,↓reduceIte,sevalprocAttr,Z0,Z1,bytesOf]
    obtain ⟨rs6,r6,kv6,js6,q6,qr6,ql6,qc6,qo6,qn6,put6⟩:=mk_call M6 X6 (c:=6) rfl
    obtain ⟨r6_0,r6_1,r6_2,r6_3,r6_4,r6_5,r6_6,rfl⟩:=len7 ql6
    obtain rfl:r6_6=kv6:=by simpa using qc6
    simp only [go_sem,reduceIte,↓reduceIte,sevalprocAttr,Z0,Z1,bytesOf,q6,qr6]
    refine ⟨hlt',?_⟩
    refine (m6 _ _ _ (kx+1+1+1+1+1+(mcR v5:Int)) qo6 qn6 (by omega) (by omega) n6).mono ?_
    rintro _ Hn6 ⟨rfl,hl6,ho6,hf6⟩
    obtain ⟨M7,X7⟩:=put6 Hn6 _ hl6 ho6 hf6
    simp only [go_sem,reduceIte,↓reduceIte,sevalprocAttr,Z0,Z1,bytesOf]
    simp only [go_sem,reduceIte,↓reduceIte,sevalprocAttr,Z0,Z1,bytesOf,ew]
    refine ⟨(x+1,Hn6),⟨⟨by simp only; omega,?_⟩,?_⟩,by simp only; omega⟩
    ·simp only
     rw [← hE]
     simp only [List.set_set,List.set_cons_zero,List.set_cons_succ] at M7
     simpa only [mkC,mkT,mkR_cnt] using M7
    ·simp only
     rw [hS]
     simp
     omega
   ·have hx':x=rows.length:=by omega
    subst hx'
    have d1:decide ((rows.length:Int)<(rows.length:Int))=false:=by simp
    rw [List.take_length,List.drop_length,List.append_nil] at M0
    simp only [go_sem,reduceIte,↓reduceIte,sevalprocAttr,Z0,Z1,bytesOf,d1,List.take_length]
    intro _
    exact ⟨M0.len,M0.own,M0.fr⟩
theorem mark_ArmS {rows:List (List TV)} (sh:∀ r∈rows,∃ (v0:Int) (v1:List UInt8) (v2:Int) (v3:Int) (v4:List (List TV)) (v5:Int) (v6:List UInt8) (v7:Int) (v8:List UInt8) (v9:Int) (v10:List (List TV)) (v11:List (List TV)),r=([.p (.i .i64 v0),.p (.s v1),.p (.i .i64 v2),.p (.i .i64 v3),.s 5 v4,.p (.i .i64 v5),.p (.s v6),.p (.i .i64 v7),.p (.s v8),.p (.i .i64 v9),.s 7 v10,.s 12 v11]:List TV)∧(MarkC Tryz.prog 68 5 v4∧v4.length≤1048576)∧(MarkC Tryz.prog 34 7 v10∧v10.length≤1048576)∧(MarkC Tryz.prog 35 12 v11∧v11.length≤1048576)):MarkC Tryz.prog 35 12 rows:=by
 intro H a ids k hO hN hk0 hk hn
 refine call35 (by simp) ?_
 have hO':=hO
 rw [Own] at hO'
 rcases hO' with ⟨rfl,rfl,rfl⟩ | ⟨id,ver,rs,js,rfl,rfl,h1,h2⟩
 ·simp only [go_sem,reduceIte,↓reduceIte,sevalprocAttr,Z0,Z1,bytesOf,mc35,mr35]
  refine ⟨Unit,[0,1,4,5],fun _ st=>st=⟨[(0,.p .nl),(1,.p (.i .i64 k)),(4,.p (.i .i64 0)),(5,.p (.i .i64 0))],[],H⟩,fun _=>0,⟨(),rfl⟩,?_⟩
  rintro _ _ rfl
  simp only [go_sem,reduceIte,↓reduceIte,sevalprocAttr,Z0,Z1,bytesOf]
  refine ⟨by simp [mcR],?_,fun i _=>trivial⟩
  rw [mkR]; exact hO
 ·have hlen:=h2.len
  generalize rs.length=N at hO hlen ⊢
  clear h1 h2
  subst hlen
  simp only [go_sem,reduceIte,↓reduceIte,sevalprocAttr,Z0,Z1,bytesOf,mc35,mr35]
  refine ⟨Nat × List AO,[0,1,4,5],fun x st=>(x.1≤rows.length∧MkI H x.2 12 id ver rows.length ((mkR (rows.take x.1) k).1++rows.drop x.1) (id :: js))∧st=⟨[(0,.gs id ver 0 rows.length),(1,.p (.i .i64 (k+mcR (rows.take x.1)))),(4,.p (.i .i64 0)),(5,.p (.i .i64 x.1))],[],x.2⟩,fun x=>rows.length - x.1,⟨(0,H),?_⟩,?_⟩
  ·simp only [go_sem,reduceIte,↓reduceIte,sevalprocAttr,Z0,Z1,bytesOf,List.take_zero,List.drop_zero,mkR,mcR]
   exact ⟨⟨Nat.zero_le _,hO,hN,rfl,fun _ _=>rfl⟩,by simp⟩
  ·rintro ⟨x,H0'⟩ _ ⟨⟨hx,M0⟩,rfl⟩
   simp only at hx M0
   by_cases hlt:x<rows.length
   ·have d1:decide ((x:Int)<(rows.length:Int))=true:=by simp; omega
    have hlt':((x:Int)<(rows.length:Int)):=by omega
    have X0:=mk_row hlt k
    have hE:=mk_rows hlt k
    have hS:=mcR_step rows x hlt
    have hB:=mcR_take rows (x+1)
    have hK0:0≤k+(mcR (rows.take x):Int):=by omega
    have ew:=wrN x (by omega)
    obtain ⟨v0,v1,v2,v3,v4,v5,v6,v7,v8,v9,v10,v11,hs,⟨m4,n4⟩,⟨m10,n10⟩,⟨m11,n11⟩⟩:=sh rows[x] (List.getElem_mem hlt)
    rw [hs] at X0 hE hS
    generalize hkx:k+(mcR (rows.take x):Int)=kx at hE hK0 ⊢
    generalize (mkR (rows.take x) k).1++rows.drop x=R0 at X0 hE M0
    simp only [mcC,mcT] at hS
    simp only [go_sem,reduceIte,↓reduceIte,sevalprocAttr,Z0,Z1,bytesOf,d1]
    intro hml
    obtain ⟨rs0,Hn0,q0,e0,M1,X1⟩:=mk_sto M0 X0 (c:=0) rfl (.i .i64 (kx))
    simp only [go_sem,reduceIte,↓reduceIte,sevalprocAttr,Z0,Z1,bytesOf,q0]
    refine ⟨hlt',?_⟩
    rw [e0]
    simp only [go_sem,reduceIte,↓reduceIte,sevalprocAttr,Z0,Z1,bytesOf,wrK (k:=kx) (by omega) (by omega)]
    refine acall_pure (markTextP (kx+1) (by omega) (by omega) _) ?_
    obtain ⟨rs1,Hn1,q1,e1,M2,X2⟩:=mk_sto M1 X1 (c:=1) rfl (.s (textM (kx+1)))
    simp only [go_sem,reduceIte,↓reduceIte,sevalprocAttr,Z0,Z1,bytesOf,q1]
    refine ⟨hlt',?_⟩
    rw [e1]
    simp only [go_sem,reduceIte,↓reduceIte,sevalprocAttr,Z0,Z1,bytesOf,wrK (k:=kx+1) (by omega) (by omega)]
    obtain ⟨rs2,Hn2,q2,e2,M3,X3⟩:=mk_sto M2 X2 (c:=2) rfl (.i .i64 (kx+1+1))
    simp only [go_sem,reduceIte,↓reduceIte,sevalprocAttr,Z0,Z1,bytesOf,q2]
    refine ⟨hlt',?_⟩
    rw [e2]
    simp only [go_sem,reduceIte,↓reduceIte,sevalprocAttr,Z0,Z1,bytesOf,wrK (k:=kx+1+1) (by omega) (by omega)]
    obtain ⟨rs3,Hn3,q3,e3,M4,X4⟩:=mk_sto M3 X3 (c:=3) rfl (.i .i64 (kx+1+1+1))
    simp only [go_sem,reduceIte,↓reduceIte,sevalprocAttr,Z0,Z1,bytesOf,q3]
    refine ⟨hlt',?_⟩
    rw [e3]
    simp only [go_sem,reduceIte,↓reduceIte,sevalprocAttr,Z0,Z1,bytesOf,wrK (k:=kx+1+1+1) (by omega) (by omega)]
    obtain ⟨rs4,r4,kv4,js4,q4,qr4,ql4,qc4,qo4,qn4,put4⟩:=mk_call M4 X4 (c:=4) rfl
    obtain ⟨r4_0,r4_1,r4_2,r4_3,r4_4,r4_5,r4_6,r4_7,r4_8,r4_9,r4_10,r4_11,rfl⟩:=len12 ql4
    obtain rfl:r4_4=kv4:=by simpa using qc4
    simp only [go_sem,reduceIte,↓reduceIte,sevalprocAttr,Z0,Z1,bytesOf,q4,qr4]
    refine ⟨hlt',?_⟩
    refine (m4 _ _ _ (kx+1+1+1+1) qo4 qn4 (by omega) (by omega) n4).mono ?_
    rintro _ Hn4 ⟨rfl,hl4,ho4,hf4⟩
    obtain ⟨M5,X5⟩:=put4 Hn4 _ hl4 ho4 hf4
    simp only [go_sem,reduceIte,↓reduceIte,sevalprocAttr,Z0,Z1,bytesOf]
    obtain ⟨rs5,Hn5,q5,e5,M6,X6⟩:=mk_sto M5 X5 (c:=5) rfl (.i .i64 (kx+1+1+1+1+(mcR v4:Int)))
    simp only [go_sem,reduceIte,↓reduceIte,sevalprocAttr,Z0,Z1,bytesOf,q5]
    refine ⟨hlt',?_⟩
    rw [e5]
    simp only [go_sem,reduceIte,↓reduceIte,sevalprocAttr,Z0,Z1,bytesOf,wrK (k:=kx+1+1+1+1+(mcR v4:Int)) (by omega) (by omega)]
    refine acall_pure (markTextP (kx+1+1+1+1+(mcR v4:Int)+1) (by omega) (by omega) _) ?_
    obtain ⟨rs6,Hn6,q6,e6,M7,X7⟩:=mk_sto M6 X6 (c:=6) rfl (.s (textM (kx+1+1+1+1+(mcR v4:Int)+1)))
    simp only [go_sem,reduceIte,↓reduceIte,sevalprocAttr,Z0,Z1,bytesOf,q6]
    refine ⟨hlt',?_⟩
    rw [e6]
    simp only [go_sem,reduceIte,↓reduceIte,sevalprocAttr,Z0,Z1,bytesOf,wrK (k:=kx+1+1+1+1+(mcR v4:Int)+1) (by omega) (by omega)]
    obtain ⟨rs7,Hn7,q7,e7,M8,X8⟩:=mk_sto M7 X7 (c:=7) rfl (.i .i64 (kx+1+1+1+1+(mcR v4:Int)+1+1))
    simp only [go_sem,reduceIte,↓reduceIte,sevalprocAttr,Z0,Z1,bytesOf,q7]
    refine ⟨hlt',?_⟩
    rw [e7]
    simp only [go_sem,reduceIte,↓reduceIte,sevalprocAttr,Z0,Z1,bytesOf,wrK (k:=kx+1+1+1+1+(mcR v4:Int)+1+1) (by omega) (by omega)]
    refine acall_pure (markTextP (kx+1+1+1+1+(mcR v4:Int)+1+1+1) (by omega) (by omega) _) ?_
    obtain ⟨rs8,Hn8,q8,e8,M9,X9⟩:=mk_sto M8 X8 (c:=8) rfl (.s (textM (kx+1+1+1+1+(mcR v4:Int)+1+1+1)))
    simp only [go_sem,reduceIte,↓reduceIte,sevalprocAttr,Z0,Z1,bytesOf,q8]
    refine ⟨hlt',?_⟩
    rw [e8]
    simp only [go_sem,reduceIte,↓reduceIte,sevalprocAttr,Z0,Z1,bytesOf,wrK (k:=kx+1+1+1+1+(mcR v4:Int)+1+1+1) (by omega) (by omega)]
    obtain ⟨rs9,Hn9,q9,e9,M10,X10⟩:=mk_sto M9 X9 (c:=9) rfl (.i .i64 (kx+1+1+1+1+(mcR v4:Int)+1+1+1+1))
    simp only [go_sem,reduceIte,↓reduceIte,sevalprocAttr,Z0,Z1,bytesOf,q9]
    refine ⟨hlt',?_⟩
    rw [e9]
    simp only [go_sem,reduceIte,↓reduceIte,sevalprocAttr,Z0,Z1,bytesOf,wrK (k:=kx+1+1+1+1+(mcR v4:Int)+1+1+1+1) (by omega) (by omega)]
    obtain ⟨rs10,r10,kv10,js10,q10,qr10,ql10,qc10,qo10,qn10,put10⟩:=mk_call M10 X10 (c:=10) rfl
    obtain ⟨r10_0,r10_1,r10_2,r10_3,r10_4,r10_5,r10_6,r10_7,r10_8,r10_9,r10_10,r10_11,rfl⟩:=len12 ql10
    obtain rfl:r10_10=kv10:=by simpa using qc10
    simp only [go_sem,reduceIte,↓reduceIte,sevalprocAttr,Z0,Z1,bytesOf,q10,qr10]
    refine ⟨hlt',?_⟩
    refine (m10 _ _ _ (kx+1+1+1+1+(mcR v4:Int)+1+1+1+1+1) qo10 qn10 (by omega) (by omega) n10).mono ?_
    rintro _ Hn10 ⟨rfl,hl10,ho10,hf10⟩
    obtain ⟨M11,X11⟩:=put10 Hn10 _ hl10 ho10 hf10
    simp only [go_sem,reduceIte,↓reduceIte,sevalprocAttr,Z0,Z1,bytesOf]
    obtain ⟨rs11,r11,kv11,js11,q11,qr11,ql11,qc11,qo11,qn11,put11⟩:=mk_call M11 X11 (c:=11) rfl
    obtain ⟨r11_0,r11_1,r11_2,r11_3,r11_4,r11_5,r11_6,r11_7,r11_8,r11_9,r11_10,r11_11,rfl⟩:=len12 ql11
    obtain rfl:r11_11=kv11:=by simpa using qc11
    simp only [go_sem,reduceIte,↓reduceIte,sevalprocAttr,Z0,Z1,bytesOf,q11,qr11]
    refine ⟨hlt',?_⟩
    refine (m11 _ _ _ (kx+1+1+1+1+(mcR v4:Int)+1+1+1+1+1+(mcR v10:Int)) qo11 qn11 (by omega) (by omega) n11).mono ?_
    rintro _ Hn11 ⟨rfl,hl11,ho11,hf11⟩
    obtain ⟨M12,X12⟩:=put11 Hn11 _ hl11 ho11 hf11
    simp only [go_sem,reduceIte,↓reduceIte,sevalprocAttr,Z0,Z1,bytesOf]
    simp only [go_sem,reduceIte,↓reduceIte,sevalprocAttr,Z0,Z1,bytesOf,ew]
    refine ⟨(x+1,Hn11),⟨⟨by simp only; omega,?_⟩,?_⟩,by simp only; omega⟩
    ·simp only
     rw [← hE]
     simp only [List.set_set,List.set_cons_zero,List.set_cons_succ] at M12
     simpa only [mkC,mkT,mkR_cnt] using M12
    ·simp only
     rw [hS]
     simp
     omega
   ·have hx':x=rows.length:=by omega
    subst hx'
    have d1:decide ((rows.length:Int)<(rows.length:Int))=false:=by simp
    rw [List.take_length,List.drop_length,List.append_nil] at M0
    simp only [go_sem,reduceIte,↓reduceIte,sevalprocAttr,Z0,Z1,bytesOf,d1,List.take_length]
    intro _
    exact ⟨M0.len,M0.own,M0.fr⟩
theorem mkR_get : ∀ (l : List (List TV)) (x : Nat) (h : x < l.length) (k : Int), (mkR l k).1[x]? = some (mkC l[x] (k + mcR (l.take x))).1
  | [], x, h, k => by simp at h
  | r :: l, 0, h, k => by rw [mkR]; simp [mcR]
  | r :: l, x + 1, h, k => by
    rw [mkR]
    simp only [List.getElem?_cons_succ, List.getElem_cons_succ, List.take_succ_cons, mcR]
    rw [mkR_get l x (by simpa using h), mkC_cnt]
    congr 3
    simp; omega
theorem held_row {H:List AO} {sz:Nat} {rows:List (List TV)} {rs:List (List AV)} {js:List Nat} {k:Int} (h:OwnRs H sz (mkR rows k).1 rs js) {x:Nat} (hx:x<rows.length) :
  ∃ r jr,rs[x]?=some r∧r.length=sz∧OwnCs H (mkC rows[x] (k+mcR (rows.take x))).1 r jr:=by
 obtain ⟨c,j1,j2,j3,e1,_,e2,e3,_⟩:=h.at (mkR_get rows x hx k)
 exact ⟨c,j2,e1,e2,e3⟩
theorem cell_p {H:List AO} {ts:List TV} {cs:List AV} {ids:List Nat} (h:OwnCs H ts cs ids) {c:Nat} {v:PV} {a:AV} (ht:ts[c]?=some (.p v)) (hc:cs[c]?=some a):a=.p v:=by
 obtain ⟨c',j1,j2,j3,e1,_,e2,_⟩:=h.at ht
 rw [hc] at e1; cases e1
 rw [Own] at e2; exact e2.1
theorem cell_s {H:List AO} {ts:List TV} {cs:List AV} {ids:List Nat} (h:OwnCs H ts cs ids) {c sz:Nat} {rows:List (List TV)} {a:AV} (ht:ts[c]?=some (.s sz rows)) (hc:cs[c]?=some a):∃ js,Own H (.s sz rows) a js:=by
 obtain ⟨c',j1,j2,j3,e1,_,e2,_⟩:=h.at ht
 rw [hc] at e1; cases e1
 exact ⟨_,e2⟩
theorem held_PatS {rows:List (List TV)} (sh:∀ r∈rows,∃ (v0:Int) (v1:List UInt8) (v2:Int) (v3:Int) (v4:List (List TV)),r=([.p (.i .i64 v0),.p (.s v1),.p (.i .i64 v2),.p (.i .i64 v3),.s 5 v4]:List TV)∧(HeldC Tryz.prog 69 5 v4∧v4.length≤1048576)):HeldC Tryz.prog 69 5 rows:=by
 intro H a ids k hO hk0 hk hn
 refine call69 (by simp) ?_
 rw [Own] at hO
 rcases hO with ⟨h0,rfl,rfl⟩ | ⟨id,ver,rs,js,rfl,rfl,h1,h2⟩
 ·have:rows=[]:=by have:=mkR_len rows k; rw [h0] at this; exact List.length_eq_zero_iff.1 this.symm
  subst this
  simp only [go_sem,reduceIte,↓reduceIte,sevalprocAttr,Z0,Z1,bytesOf,mc69,mr69]
  refine ⟨Unit,[0,1,4,5],fun _ st=>st=⟨[(0,.p .nl),(1,.p (.i .i64 k)),(4,.p (.i .i64 0)),(5,.p (.i .i64 0))],[],H⟩,fun _=>0,⟨(),rfl⟩,?_⟩
  rintro _ _ rfl
  simp only [go_sem,reduceIte,↓reduceIte,sevalprocAttr,Z0,Z1,bytesOf]
  simp [mcR,pureQ]
 ·have hlen:=h2.len
  rw [mkR_len] at hlen
  rw [hlen]
  simp only [go_sem,reduceIte,↓reduceIte,sevalprocAttr,Z0,Z1,bytesOf,mc69,mr69]
  refine ⟨Nat,[0,1,4,5],fun x st=>x≤rows.length∧st=⟨[(0,.gs id ver 0 rows.length),(1,.p (.i .i64 (k+mcR (rows.take x)))),(4,.p (.i .i64 0)),(5,.p (.i .i64 x))],[],H⟩,fun x=>rows.length - x,⟨0,?_⟩,?_⟩
  ·simp only [go_sem,reduceIte,↓reduceIte,sevalprocAttr,Z0,Z1,bytesOf,List.take_zero,mcR]
   exact ⟨Nat.zero_le _,by simp⟩
  ·rintro x _ ⟨hx,rfl⟩
   by_cases hlt:x<rows.length
   ·have d1:decide ((x:Int)<(rows.length:Int))=true:=by simp; omega
    have hlt':((x:Int)<(rows.length:Int)):=by omega
    have hS:=mcR_step rows x hlt
    have hB:=mcR_take rows (x+1)
    have hK0:0≤k+(mcR (rows.take x):Int):=by omega
    have ew:=wrN x (by omega)
    obtain ⟨r,jr,hr,hrl,hcs⟩:=held_row h2 hlt
    obtain ⟨v0,v1,v2,v3,v4,hs,⟨m4,n4⟩⟩:=sh rows[x] (List.getElem_mem hlt)
    rw [hs] at hS hcs
    generalize hkx:k+(mcR (rows.take x):Int)=kx at hK0 hcs ⊢
    simp only [mcC,mcT] at hS
    simp only [mkC,mkT,mkR_cnt] at hcs
    obtain ⟨r_0,r_1,r_2,r_3,r_4,rfl⟩:=len5 hrl
    obtain rfl:=cell_p hcs (c:=0) rfl rfl
    obtain rfl:=cell_p hcs (c:=1) rfl rfl
    obtain rfl:=cell_p hcs (c:=2) rfl rfl
    obtain rfl:=cell_p hcs (c:=3) rfl rfl
    obtain ⟨ids4,ho4⟩:=cell_s hcs (c:=4) rfl rfl
    have w0:=wrK (k:=kx) (by omega) (by omega)
    have w1:=wrK (k:=kx+1) (by omega) (by omega)
    have w2:=wrK (k:=kx+1+1) (by omega) (by omega)
    have w3:=wrK (k:=kx+1+1+1) (by omega) (by omega)
    have w4:decide (kx+1+1+1+1+(mcR v4:Int)<0)=false:=decide_eq_false (by omega)
    simp only [go_sem,reduceIte,↓reduceIte,sevalprocAttr,Z0,Z1,bytesOf,d1,h1,hr,hlt',w0,w1,w2,w3,w4]
    intro hml
    refine drw_same ?_
    simp only [go_sem,reduceIte,↓reduceIte,sevalprocAttr,Z0,Z1,bytesOf,h1,hr,hlt',w0,w1,w2,w3,w4]
    refine pcall_pure (fun A=>markTextP (kx+1) (by omega) (by omega) _) (Hext.refl _) ?_
    simp only [go_sem,reduceIte,↓reduceIte,sevalprocAttr,Z0,Z1,bytesOf,h1,hr,hlt',w0,w1,w2,w3,w4]
    refine acall_pure (m4 _ _ _ (kx+1+1+1+1) ho4 (by omega) (by omega) n4) ?_
    simp only [go_sem,reduceIte,↓reduceIte,sevalprocAttr,Z0,Z1,bytesOf,h1,hr,hlt',w0,w1,w2,w3,w4]
    simp only [go_sem,reduceIte,↓reduceIte,sevalprocAttr,Z0,Z1,bytesOf,ew]
    refine ⟨x+1,⟨by omega,?_⟩,by omega⟩
    rw [hS]
    simp
    omega
   ·have hx':x=rows.length:=by omega
    subst hx'
    have d1:decide ((rows.length:Int)<(rows.length:Int))=false:=by simp
    simp only [go_sem,reduceIte,↓reduceIte,sevalprocAttr,Z0,Z1,bytesOf,d1,List.take_length]
    intro _
    exact ⟨rfl,rfl⟩
theorem held_ExpS {rows:List (List TV)} (sh:∀ r∈rows,∃ (v0:Int) (v1:List UInt8) (v2:Int) (v3:List UInt8) (v4:Int) (v5:List (List TV)) (v6:List (List TV)),r=([.p (.i .i64 v0),.p (.s v1),.p (.i .i64 v2),.p (.s v3),.p (.i .i64 v4),.s 7 v5,.s 12 v6]:List TV)∧(HeldC Tryz.prog 36 7 v5∧v5.length≤1048576)∧(HeldC Tryz.prog 37 12 v6∧v6.length≤1048576)):HeldC Tryz.prog 36 7 rows:=by
 intro H a ids k hO hk0 hk hn
 refine call36 (by simp) ?_
 rw [Own] at hO
 rcases hO with ⟨h0,rfl,rfl⟩ | ⟨id,ver,rs,js,rfl,rfl,h1,h2⟩
 ·have:rows=[]:=by have:=mkR_len rows k; rw [h0] at this; exact List.length_eq_zero_iff.1 this.symm
  subst this
  simp only [go_sem,reduceIte,↓reduceIte,sevalprocAttr,Z0,Z1,bytesOf,mc36,mr36]
  refine ⟨Unit,[0,1,4,5],fun _ st=>st=⟨[(0,.p .nl),(1,.p (.i .i64 k)),(4,.p (.i .i64 0)),(5,.p (.i .i64 0))],[],H⟩,fun _=>0,⟨(),rfl⟩,?_⟩
  rintro _ _ rfl
  simp only [go_sem,reduceIte,↓reduceIte,sevalprocAttr,Z0,Z1,bytesOf]
  simp [mcR,pureQ]
 ·have hlen:=h2.len
  rw [mkR_len] at hlen
  rw [hlen]
  simp only [go_sem,reduceIte,↓reduceIte,sevalprocAttr,Z0,Z1,bytesOf,mc36,mr36]
  refine ⟨Nat,[0,1,4,5],fun x st=>x≤rows.length∧st=⟨[(0,.gs id ver 0 rows.length),(1,.p (.i .i64 (k+mcR (rows.take x)))),(4,.p (.i .i64 0)),(5,.p (.i .i64 x))],[],H⟩,fun x=>rows.length - x,⟨0,?_⟩,?_⟩
  ·simp only [go_sem,reduceIte,↓reduceIte,sevalprocAttr,Z0,Z1,bytesOf,List.take_zero,mcR]
   exact ⟨Nat.zero_le _,by simp⟩
  ·rintro x _ ⟨hx,rfl⟩
   by_cases hlt:x<rows.length
   ·have d1:decide ((x:Int)<(rows.length:Int))=true:=by simp; omega
    have hlt':((x:Int)<(rows.length:Int)):=by omega
    have hS:=mcR_step rows x hlt
    have hB:=mcR_take rows (x+1)
    have hK0:0≤k+(mcR (rows.take x):Int):=by omega
    have ew:=wrN x (by omega)
    obtain ⟨r,jr,hr,hrl,hcs⟩:=held_row h2 hlt
    obtain ⟨v0,v1,v2,v3,v4,v5,v6,hs,⟨m5,n5⟩,⟨m6,n6⟩⟩:=sh rows[x] (List.getElem_mem hlt)
    rw [hs] at hS hcs
    generalize hkx:k+(mcR (rows.take x):Int)=kx at hK0 hcs ⊢
    simp only [mcC,mcT] at hS
    simp only [mkC,mkT,mkR_cnt] at hcs
    obtain ⟨r_0,r_1,r_2,r_3,r_4,r_5,r_6,rfl⟩:=len7 hrl
    obtain rfl:=cell_p hcs (c:=0) rfl rfl
    obtain rfl:=cell_p hcs (c:=1) rfl rfl
    obtain rfl:=cell_p hcs (c:=2) rfl rfl
    obtain rfl:=cell_p hcs (c:=3) rfl rfl
    obtain rfl:=cell_p hcs (c:=4) rfl rfl
    obtain ⟨ids5,ho5⟩:=cell_s hcs (c:=5) rfl rfl
    obtain ⟨ids6,ho6⟩:=cell_s hcs (c:=6) rfl rfl
    have w0:=wrK (k:=kx) (by omega) (by omega)
    have w1:=wrK (k:=kx+1) (by omega) (by omega)
    have w2:=wrK (k:=kx+1+1) (by omega) (by omega)
    have w3:=wrK (k:=kx+1+1+1) (by omega) (by omega)
    have w4:=wrK (k:=kx+1+1+1+1) (by omega) (by omega)
    have w5:decide (kx+1+1+1+1+1+(mcR v5:Int)<0)=false:=decide_eq_false (by omega)
    have w6:decide (kx+1+1+1+1+1+(mcR v5:Int)+(mcR v6:Int)<0)=false:=decide_eq_false (by omega)
    simp only [go_sem,reduceIte,↓reduceIte,sevalprocAttr,Z0,Z1,bytesOf,d1,h1,hr,hlt',w0,w1,w2,w3,w4,w5,w6]
    intro hml
    refine drw_same ?_
    simp only [go_sem,reduceIte,↓reduceIte,sevalprocAttr,Z0,Z1,bytesOf,h1,hr,hlt',w0,w1,w2,w3,w4,w5,w6]
    refine pcall_pure (fun A=>markTextP (kx+1) (by omega) (by omega) _) (Hext.refl _) ?_
    simp only [go_sem,reduceIte,↓reduceIte,sevalprocAttr,Z0,Z1,bytesOf,h1,hr,hlt',w0,w1,w2,w3,w4,w5,w6]
    refine drw_same ?_
    simp only [go_sem,reduceIte,↓reduceIte,sevalprocAttr,Z0,Z1,bytesOf,h1,hr,hlt',w0,w1,w2,w3,w4,w5,w6]
    refine pcall_pure (fun A=>markTextP (kx+1+1+1) (by omega) (by omega) _) (Hext.refl _) ?_
    simp only [go_sem,reduceIte,↓reduceIte,sevalprocAttr,Z0,Z1,bytesOf,h1,hr,hlt',w0,w1,w2,w3,w4,w5,w6]
    refine acall_pure (m5 _ _ _ (kx+1+1+1+1+1) ho5 (by omega) (by omega) n5) ?_
    simp only [go_sem,reduceIte,↓reduceIte,sevalprocAttr,Z0,Z1,bytesOf,h1,hr,hlt',w0,w1,w2,w3,w4,w5,w6]
    refine acall_pure (m6 _ _ _ (kx+1+1+1+1+1+(mcR v5:Int)) ho6 (by omega) (by omega) n6) ?_
    simp only [go_sem,reduceIte,↓reduceIte,sevalprocAttr,Z0,Z1,bytesOf,h1,hr,hlt',w0,w1,w2,w3,w4,w5,w6]
    simp only [go_sem,reduceIte,↓reduceIte,sevalprocAttr,Z0,Z1,bytesOf,ew]
    refine ⟨x+1,⟨by omega,?_⟩,by omega⟩
    rw [hS]
    simp
    omega
   ·have hx':x=rows.length:=by omega
    subst hx'
    have d1:decide ((rows.length:Int)<(rows.length:Int))=false:=by simp
    simp only [go_sem,reduceIte,↓reduceIte,sevalprocAttr,Z0,Z1,bytesOf,d1,List.take_length]
    intro _
    exact ⟨rfl,rfl⟩
set_option maxHeartbeats 2000000 in
theorem held_ArmS {rows:List (List TV)} (sh:∀ r∈rows,∃ (v0:Int) (v1:List UInt8) (v2:Int) (v3:Int) (v4:List (List TV)) (v5:Int) (v6:List UInt8) (v7:Int) (v8:List UInt8) (v9:Int) (v10:List (List TV)) (v11:List (List TV)),r=([.p (.i .i64 v0),.p (.s v1),.p (.i .i64 v2),.p (.i .i64 v3),.s 5 v4,.p (.i .i64 v5),.p (.s v6),.p (.i .i64 v7),.p (.s v8),.p (.i .i64 v9),.s 7 v10,.s 12 v11]:List TV)∧(HeldC Tryz.prog 69 5 v4∧v4.length≤1048576)∧(HeldC Tryz.prog 36 7 v10∧v10.length≤1048576)∧(HeldC Tryz.prog 37 12 v11∧v11.length≤1048576)):HeldC Tryz.prog 37 12 rows:=by
 intro H a ids k hO hk0 hk hn
 refine call37 (by simp) ?_
 rw [Own] at hO
 rcases hO with ⟨h0,rfl,rfl⟩ | ⟨id,ver,rs,js,rfl,rfl,h1,h2⟩
 ·have:rows=[]:=by have:=mkR_len rows k; rw [h0] at this; exact List.length_eq_zero_iff.1 this.symm
  subst this
  simp only [go_sem,reduceIte,↓reduceIte,sevalprocAttr,Z0,Z1,bytesOf,mc37,mr37]
  refine ⟨Unit,[0,1,4,5],fun _ st=>st=⟨[(0,.p .nl),(1,.p (.i .i64 k)),(4,.p (.i .i64 0)),(5,.p (.i .i64 0))],[],H⟩,fun _=>0,⟨(),rfl⟩,?_⟩
  rintro _ _ rfl
  simp only [go_sem,reduceIte,↓reduceIte,sevalprocAttr,Z0,Z1,bytesOf]
  simp [mcR,pureQ]
 ·have hlen:=h2.len
  rw [mkR_len] at hlen
  rw [hlen]
  simp only [go_sem,reduceIte,↓reduceIte,sevalprocAttr,Z0,Z1,bytesOf,mc37,mr37]
  refine ⟨Nat,[0,1,4,5],fun x st=>x≤rows.length∧st=⟨[(0,.gs id ver 0 rows.length),(1,.p (.i .i64 (k+mcR (rows.take x)))),(4,.p (.i .i64 0)),(5,.p (.i .i64 x))],[],H⟩,fun x=>rows.length - x,⟨0,?_⟩,?_⟩
  ·simp only [go_sem,reduceIte,↓reduceIte,sevalprocAttr,Z0,Z1,bytesOf,List.take_zero,mcR]
   exact ⟨Nat.zero_le _,by simp⟩
  ·rintro x _ ⟨hx,rfl⟩
   by_cases hlt:x<rows.length
   ·have d1:decide ((x:Int)<(rows.length:Int))=true:=by simp; omega
    have hlt':((x:Int)<(rows.length:Int)):=by omega
    have hS:=mcR_step rows x hlt
    have hB:=mcR_take rows (x+1)
    have hK0:0≤k+(mcR (rows.take x):Int):=by omega
    have ew:=wrN x (by omega)
    obtain ⟨r,jr,hr,hrl,hcs⟩:=held_row h2 hlt
    obtain ⟨v0,v1,v2,v3,v4,v5,v6,v7,v8,v9,v10,v11,hs,⟨m4,n4⟩,⟨m10,n10⟩,⟨m11,n11⟩⟩:=sh rows[x] (List.getElem_mem hlt)
    rw [hs] at hS hcs
    generalize hkx:k+(mcR (rows.take x):Int)=kx at hK0 hcs ⊢
    simp only [mcC,mcT] at hS
    simp only [mkC,mkT,mkR_cnt] at hcs
    obtain ⟨r_0,r_1,r_2,r_3,r_4,r_5,r_6,r_7,r_8,r_9,r_10,r_11,rfl⟩:=len12 hrl
    obtain rfl:=cell_p hcs (c:=0) rfl rfl
    obtain rfl:=cell_p hcs (c:=1) rfl rfl
    obtain rfl:=cell_p hcs (c:=2) rfl rfl
    obtain rfl:=cell_p hcs (c:=3) rfl rfl
    obtain ⟨ids4,ho4⟩:=cell_s hcs (c:=4) rfl rfl
    obtain rfl:=cell_p hcs (c:=5) rfl rfl
    obtain rfl:=cell_p hcs (c:=6) rfl rfl
    obtain rfl:=cell_p hcs (c:=7) rfl rfl
    obtain rfl:=cell_p hcs (c:=8) rfl rfl
    obtain rfl:=cell_p hcs (c:=9) rfl rfl
    obtain ⟨ids10,ho10⟩:=cell_s hcs (c:=10) rfl rfl
    obtain ⟨ids11,ho11⟩:=cell_s hcs (c:=11) rfl rfl
    have w0:=wrK (k:=kx) (by omega) (by omega)
    have w1:=wrK (k:=kx+1) (by omega) (by omega)
    have w2:=wrK (k:=kx+1+1) (by omega) (by omega)
    have w3:=wrK (k:=kx+1+1+1) (by omega) (by omega)
    have w4:decide (kx+1+1+1+1+(mcR v4:Int)<0)=false:=decide_eq_false (by omega)
    have w5:=wrK (k:=kx+1+1+1+1+(mcR v4:Int)) (by omega) (by omega)
    have w6:=wrK (k:=kx+1+1+1+1+(mcR v4:Int)+1) (by omega) (by omega)
    have w7:=wrK (k:=kx+1+1+1+1+(mcR v4:Int)+1+1) (by omega) (by omega)
    have w8:=wrK (k:=kx+1+1+1+1+(mcR v4:Int)+1+1+1) (by omega) (by omega)
    have w9:=wrK (k:=kx+1+1+1+1+(mcR v4:Int)+1+1+1+1) (by omega) (by omega)
    have w10:decide (kx+1+1+1+1+(mcR v4:Int)+1+1+1+1+1+(mcR v10:Int)<0)=false:=decide_eq_false (by omega)
    have w11:decide (kx+1+1+1+1+(mcR v4:Int)+1+1+1+1+1+(mcR v10:Int)+(mcR v11:Int)<0)=false:=decide_eq_false (by omega)
    simp only [go_sem,reduceIte,↓reduceIte,sevalprocAttr,Z0,Z1,bytesOf,d1,h1,hr,hlt',w0,w1,w2,w3,w4,w5,w6,w7,w8,w9,w10,w11]
    intro hml
    refine drw_same ?_
    simp only [go_sem,reduceIte,↓reduceIte,sevalprocAttr,Z0,Z1,bytesOf,h1,hr,hlt',w0,w1,w2,w3,w4,w5,w6,w7,w8,w9,w10,w11]
    refine pcall_pure (fun A=>markTextP (kx+1) (by omega) (by omega) _) (Hext.refl _) ?_
    simp only [go_sem,reduceIte,↓reduceIte,sevalprocAttr,Z0,Z1,bytesOf,h1,hr,hlt',w0,w1,w2,w3,w4,w5,w6,w7,w8,w9,w10,w11]
    refine acall_pure (m4 _ _ _ (kx+1+1+1+1) ho4 (by omega) (by omega) n4) ?_
    simp only [go_sem,reduceIte,↓reduceIte,sevalprocAttr,Z0,Z1,bytesOf,h1,hr,hlt',w0,w1,w2,w3,w4,w5,w6,w7,w8,w9,w10,w11]
    refine drw_same ?_
    simp only [go_sem,reduceIte,↓reduceIte,sevalprocAttr,Z0,Z1,bytesOf,h1,hr,hlt',w0,w1,w2,w3,w4,w5,w6,w7,w8,w9,w10,w11]
    refine pcall_pure (fun A=>markTextP (kx+1+1+1+1+(mcR v4:Int)+1) (by omega) (by omega) _) (Hext.refl _) ?_
    simp only [go_sem,reduceIte,↓reduceIte,sevalprocAttr,Z0,Z1,bytesOf,h1,hr,hlt',w0,w1,w2,w3,w4,w5,w6,w7,w8,w9,w10,w11]
    refine drw_same ?_
    simp only [go_sem,reduceIte,↓reduceIte,sevalprocAttr,Z0,Z1,bytesOf,h1,hr,hlt',w0,w1,w2,w3,w4,w5,w6,w7,w8,w9,w10,w11]
    refine pcall_pure (fun A=>markTextP (kx+1+1+1+1+(mcR v4:Int)+1+1+1) (by omega) (by omega) _) (Hext.refl _) ?_
    simp only [go_sem,reduceIte,↓reduceIte,sevalprocAttr,Z0,Z1,bytesOf,h1,hr,hlt',w0,w1,w2,w3,w4,w5,w6,w7,w8,w9,w10,w11]
    refine acall_pure (m10 _ _ _ (kx+1+1+1+1+(mcR v4:Int)+1+1+1+1+1) ho10 (by omega) (by omega) n10) ?_
    simp only [go_sem,reduceIte,↓reduceIte,sevalprocAttr,Z0,Z1,bytesOf,h1,hr,hlt',w0,w1,w2,w3,w4,w5,w6,w7,w8,w9,w10,w11]
    refine acall_pure (m11 _ _ _ (kx+1+1+1+1+(mcR v4:Int)+1+1+1+1+1+(mcR v10:Int)) ho11 (by omega) (by omega) n11) ?_
    simp only [go_sem,reduceIte,↓reduceIte,sevalprocAttr,Z0,Z1,bytesOf,h1,hr,hlt',w0,w1,w2,w3,w4,w5,w6,w7,w8,w9,w10,w11]
    simp only [go_sem,reduceIte,↓reduceIte,sevalprocAttr,Z0,Z1,bytesOf,ew]
    refine ⟨x+1,⟨by omega,?_⟩,by omega⟩
    rw [hS]
    simp
    omega
   ·have hx':x=rows.length:=by omega
    subst hx'
    have d1:decide ((rows.length:Int)<(rows.length:Int))=false:=by simp
    simp only [go_sem,reduceIte,↓reduceIte,sevalprocAttr,Z0,Z1,bytesOf,d1,List.take_length]
    intro _
    exact ⟨rfl,rfl⟩
end Go.Proofs.YtghcmccjchdgeaaGreatDoor.Pg
/- Marks of a parsed expression, written and found again. -/
set_option linter.all false
namespace Go.Proofs.YtghcmccjchdgeaaGreatDoor.Pg
open Go.AM Mc Qp
theorem mcR_mem : ∀ {l : List (List TV)} {r : List TV}, r ∈ l → mcC r ≤ mcR l
  | t :: l, r, h => by
    rw [mcR]
    rcases List.mem_cons.1 h with rfl | h
    · omega
    · have := mcR_mem h; omega
theorem mcR_len : ∀ {l : List (List TV)}, (∀ r ∈ l, 1 ≤ mcC r) → l.length ≤ mcR l
  | [], _ => Nat.zero_le _
  | t :: l, h => by
    have := h t (by simp)
    have := mcR_len (l := l) fun r hr => h r (by simp [hr])
    rw [mcR, List.length_cons]; omega
theorem tvL_memP {l:List PatD} {r:List TV} (h:r∈PatD.tvL l):∃ t∈l,r=t.tv:=by rw [PatD.tvL_eq] at h; obtain ⟨t,h1,rfl⟩:=List.mem_map.1 h; exact ⟨t,h1,rfl⟩
theorem tvL_memE {l:List ExpD} {r:List TV} (h:r∈ExpD.tvL l):∃ t∈l,r=t.tv:=by rw [ExpD.tvL_eq] at h; obtain ⟨t,h1,rfl⟩:=List.mem_map.1 h; exact ⟨t,h1,rfl⟩
theorem tvL_memA {l:List ArmD} {r:List TV} (h:r∈ExpD.tvA l):∃ t∈l,r=t.tv:=by rw [ExpD.tvA_eq] at h; obtain ⟨t,h1,rfl⟩:=List.mem_map.1 h; exact ⟨t,h1,rfl⟩
theorem lenP (l:List PatD):(PatD.tvL l).length≤mcR (PatD.tvL l):=mcR_len fun r hr=>by
 obtain ⟨⟨k,n,u,p,ks⟩,_,rfl⟩:=tvL_memP hr
 rw [mc_pat]; omega
theorem lenE (l:List ExpD):(ExpD.tvL l).length≤mcR (ExpD.tvL l):=mcR_len fun r hr=>by
 obtain ⟨⟨k,n,u,x,p,ks,as'⟩,_,rfl⟩:=tvL_memE hr
 rw [mc_exp]; omega
theorem lenA (l:List ArmD):(ExpD.tvA l).length≤mcR (ExpD.tvA l):=mcR_len fun r hr=>by
 obtain ⟨⟨⟨k,n,u,p,ks⟩,e⟩,_,rfl⟩:=tvL_memA hr
 rw [ArmD.tv,mcC_app,mc_pat]; omega
theorem markPatR : ∀ (m : Nat) (l : List PatD), mcR (PatD.tvL l) < m → mcR (PatD.tvL l) ≤ 1048576 → MarkC Tryz.prog 68 5 (PatD.tvL l) ∧ HeldC Tryz.prog 69 5 (PatD.tvL l) := by
  intro m
  induction m with
  | zero => intro l h; omega
  | succ m ih =>
    intro l h hb
    have key : ∀ r ∈ PatD.tvL l, ∃ (v0 : Int) (v1 : List UInt8) (v2 : Int) (v3 : Int) (ks : List PatD), r = ([.p (.i .i64 v0), .p (.s v1), .p (.i .i64 v2), .p (.i .i64 v3), .s 5 (PatD.tvL ks)] : List TV) ∧ (MarkC Tryz.prog 68 5 (PatD.tvL ks) ∧ HeldC Tryz.prog 69 5 (PatD.tvL ks)) ∧ (PatD.tvL ks).length ≤ 1048576 := fun r hr => by
      have hm := mcR_mem hr
      obtain ⟨⟨k, n, u, p, ks⟩, ht, rfl⟩ := tvL_memP hr
      rw [PatD.tv] at hm
      simp only [mcC, mcT] at hm
      have := lenP ks
      exact ⟨k, n, u, p, ks, by rw [PatD.tv], ih ks (by omega) (by omega), by omega⟩
    exact ⟨mark_PatS fun r hr => by obtain ⟨k, n, u, p, ks, e, h1, h2⟩ := key r hr; exact ⟨k, n, u, p, _, e, h1.1, h2⟩, held_PatS fun r hr => by obtain ⟨k, n, u, p, ks, e, h1, h2⟩ := key r hr; exact ⟨k, n, u, p, _, e, h1.2, h2⟩⟩
theorem markExpR : ∀ (m : Nat), (∀ l : List ExpD, mcR (ExpD.tvL l) < m → mcR (ExpD.tvL l) ≤ 1048576 → MarkC Tryz.prog 34 7 (ExpD.tvL l) ∧ HeldC Tryz.prog 36 7 (ExpD.tvL l)) ∧ ∀ l : List ArmD, mcR (ExpD.tvA l) < m → mcR (ExpD.tvA l) ≤ 1048576 → MarkC Tryz.prog 35 12 (ExpD.tvA l) ∧ HeldC Tryz.prog 37 12 (ExpD.tvA l) := by
  intro m
  induction m with
  | zero => exact ⟨fun l h => by omega, fun l h => by omega⟩
  | succ m ih =>
    refine ⟨fun l h hb => ?_, fun l h hb => ?_⟩
    · have key : ∀ r ∈ ExpD.tvL l, ∃ (k : Int) (n : List UInt8) (u : Int) (x : List UInt8) (p : Int) (ks : List ExpD) (as' : List ArmD), r = ([.p (.i .i64 k), .p (.s n), .p (.i .i64 u), .p (.s x), .p (.i .i64 p), .s 7 (ExpD.tvL ks), .s 12 (ExpD.tvA as')] : List TV) ∧
          ((MarkC Tryz.prog 34 7 (ExpD.tvL ks) ∧ HeldC Tryz.prog 36 7 (ExpD.tvL ks)) ∧ (ExpD.tvL ks).length ≤ 1048576) ∧ (MarkC Tryz.prog 35 12 (ExpD.tvA as') ∧ HeldC Tryz.prog 37 12 (ExpD.tvA as')) ∧ (ExpD.tvA as').length ≤ 1048576 := fun r hr => by
        have hm := mcR_mem hr
        obtain ⟨⟨k, n, u, x, p, ks, as'⟩, ht, rfl⟩ := tvL_memE hr
        rw [ExpD.tv] at hm
        simp only [mcC, mcT] at hm
        have := lenE ks
        have := lenA as'
        exact ⟨k, n, u, x, p, ks, as', by rw [ExpD.tv], ⟨ih.1 ks (by omega) (by omega), by omega⟩, ih.2 as' (by omega) (by omega), by omega⟩
      exact ⟨mark_ExpS fun r hr => by obtain ⟨k, n, u, x, p, ks, as', e, ⟨h1, h2⟩, h3, h4⟩ := key r hr; exact ⟨k, n, u, x, p, _, _, e, ⟨h1.1, h2⟩, h3.1, h4⟩, held_ExpS fun r hr => by obtain ⟨k, n, u, x, p, ks, as', e, ⟨h1, h2⟩, h3, h4⟩ := key r hr; exact ⟨k, n, u, x, p, _, _, e, ⟨h1.2, h2⟩, h3.2, h4⟩⟩
    · have key : ∀ r ∈ ExpD.tvA l, ∃ (qk : Int) (qn : List UInt8) (qu : Int) (qp : Int) (qs : List PatD) (k : Int) (n : List UInt8) (u : Int) (x : List UInt8) (p : Int) (ks : List ExpD) (as' : List ArmD), r = ([.p (.i .i64 qk), .p (.s qn), .p (.i .i64 qu), .p (.i .i64 qp), .s 5 (PatD.tvL qs), .p (.i .i64 k), .p (.s n), .p (.i .i64 u), .p (.s x), .p (.i .i64 p), .s 7 (ExpD.tvL ks), .s 12 (ExpD.tvA as')] : List TV) ∧
          ((MarkC Tryz.prog 68 5 (PatD.tvL qs) ∧ HeldC Tryz.prog 69 5 (PatD.tvL qs)) ∧ (PatD.tvL qs).length ≤ 1048576) ∧ ((MarkC Tryz.prog 34 7 (ExpD.tvL ks) ∧ HeldC Tryz.prog 36 7 (ExpD.tvL ks)) ∧ (ExpD.tvL ks).length ≤ 1048576) ∧ (MarkC Tryz.prog 35 12 (ExpD.tvA as') ∧ HeldC Tryz.prog 37 12 (ExpD.tvA as')) ∧ (ExpD.tvA as').length ≤ 1048576 := fun r hr => by
        have hm := mcR_mem hr
        obtain ⟨⟨⟨qk, qn, qu, qp, qs⟩, ⟨k, n, u, x, p, ks, as'⟩⟩, ht, rfl⟩ := tvL_memA hr
        rw [ArmD.tv, PatD.tv, ExpD.tv] at hm
        simp only [mcC, mcT, List.cons_append, List.nil_append] at hm
        have := lenP qs
        have := lenE ks
        have := lenA as'
        exact ⟨qk, qn, qu, qp, qs, k, n, u, x, p, ks, as', by rw [ArmD.tv, PatD.tv, ExpD.tv]; rfl, ⟨markPatR _ qs (Nat.lt_succ_self _) (by omega), by omega⟩, ⟨ih.1 ks (by omega) (by omega), by omega⟩, ih.2 as' (by omega) (by omega), by omega⟩
      exact ⟨mark_ArmS fun r hr => by obtain ⟨qk, qn, qu, qp, qs, k, n, u, x, p, ks, as', e, ⟨g1, g2⟩, ⟨h1, h2⟩, h3, h4⟩ := key r hr; exact ⟨qk, qn, qu, qp, _, k, n, u, x, p, _, _, e, ⟨g1.1, g2⟩, ⟨h1.1, h2⟩, h3.1, h4⟩, held_ArmS fun r hr => by obtain ⟨qk, qn, qu, qp, qs, k, n, u, x, p, ks, as', e, ⟨g1, g2⟩, ⟨h1, h2⟩, h3, h4⟩ := key r hr; exact ⟨qk, qn, qu, qp, _, k, n, u, x, p, _, _, e, ⟨g1.2, g2⟩, ⟨h1.2, h2⟩, h3.2, h4⟩⟩
theorem own_ltI {H:List AO} {t:TV} {a:AV} {ids:List Nat} (h:Own H t a ids):∀ i∈ids,i<H.length:=fun i hi=>by obtain ⟨_,_,_,h'⟩:=h.rows i hi; exact get_lt h'
def Mkd (ks:List ExpD) (as':List ArmD) (k:Int) (v w:AV) (i j:List Nat) (H:List AO):Prop:=Own H (.s 7 (mkR (ExpD.tvL ks) k).1) v i∧Own H (.s 12 (mkR (ExpD.tvA as') (k+mcR (ExpD.tvL ks))).1) w j
theorem Mkd.keep {ks:List ExpD} {as':List ArmD} {k:Int} {v w:AV} {i j:List Nat} {H H':List AO} (h:Mkd ks as' k v w i j H) (hk:∀ q∈i++j,∀ o,H[q]?=some o→H'[q]?=some o):Mkd ks as' k v w i j H' :=
 ⟨h.1.keep fun q hq=>hk q (by simp [hq]),h.2.keep fun q hq=>hk q (by simp [hq])⟩
section
variable {ek u p:Int} {n x:List UInt8} {ks:List ExpD} {as':List ArmD} {v w:AV} {i j:List Nat} {H:List AO} {k:Int}
theorem markExpN (hb:mcR (ExpD.tvL ks)+mcR (ExpD.tvA as')≤1048576) (o5:Own H (.s 7 (ExpD.tvL ks)) v i) (o6:Own H (.s 12 (ExpD.tvA as')) w j) (hn:(i++j).Nodup) (h0:0≤k) (hk:k≤1000000) :
  ACall Tryz.prog 11 [.st [iV ek,sV n,iV u,sV x,iV p,v,w],iV k] H (fun r H'=>r=iV (k+mcR (ExpD.tvL ks)+mcR (ExpD.tvA as'))∧Mkd ks as' k v w i j H'∧∀ (q:Nat) o,H[q]?=some o→q ∉ i++j→H'[q]?=some o):=by
 obtain ⟨n5,n6,n56⟩:=List.nodup_append.1 hn
 have l5:=own_ltI o5
 have l6:=own_ltI o6
 have e5:=lenE ks
 have e6:=lenA as'
 refine call11 (by simp) ?_
 simp only [go_sem,reduceIte,↓reduceIte,sevalprocAttr,Z0,Z1,bytesOf,mc11,mr11]
 refine (((markExpR _).1 ks (Nat.lt_succ_self _) (by omega)).1 _ v i k (o5.keep fun i _ o h=>get_ext h _) n5 h0 (by omega) (by omega)).mono ?_
 rintro _ H2 ⟨rfl,hl2,ho2,hf2⟩
 have hk1:∀ (q:Nat) o,(H++[AO.var [iV ek,sV n,iV u,sV x,iV p,v,w]])[q]?=some o→q ∉ i→H2[q]?=some o:=fun q o hi hni=>(hf2 q hni).trans hi
 have hv:H2[H.length]?=some (AO.var [iV ek,sV n,iV u,sV x,iV p,v,w]):=hk1 _ _ (get_off0 _ _) (fun h=>by have:=l5 _ h; omega)
 simp only [go_sem,reduceIte,↓reduceIte,sevalprocAttr,Z0,Z1,bytesOf,hv]
 refine (((markExpR _).2 as' (Nat.lt_succ_self _) (by omega)).1 H2 w j _ (o6.keep fun q hi o h=>hk1 q o (get_ext h _) (fun h5=>n56 q h5 q hi rfl)) n6 (by omega) (by omega) (by omega)).mono ?_
 rintro _ H3 ⟨rfl,hl3,ho3,hf3⟩
 simp only [go_sem,reduceIte,↓reduceIte,sevalprocAttr,Z0,Z1,bytesOf]
 refine ⟨⟨ho2.keep fun q hq o h=>(hf3 q fun h6=>n56 q hq q h6 rfl).trans h,ho3⟩,fun q o hi hni=>?_⟩
 simp only [List.mem_append,not_or] at hni
 exact (hf3 q hni.2).trans (hk1 q o (get_ext hi _) hni.1)
theorem heldExpN (hb:mcR (ExpD.tvL ks)+mcR (ExpD.tvA as')≤1048576) (hM:Mkd ks as' k v w i j H) (h0:0≤k) (hk:k≤1000000) :
  ACall Tryz.prog 12 [.st [iV ek,sV n,iV u,sV x,iV p,v,w],iV k] H (fun r H'=>r=iV (k+mcR (ExpD.tvL ks)+mcR (ExpD.tvA as'))∧∃ G,H'=H++G):=by
 have e5:=lenE ks
 have e6:=lenA as'
 have d5:decide (k+(mcR (ExpD.tvL ks):Int)<0)=false:=decide_eq_false (by omega)
 have d6:decide (k+(mcR (ExpD.tvL ks):Int)+(mcR (ExpD.tvA as'):Int)<0)=false:=decide_eq_false (by omega)
 refine call12 (by simp) ?_
 simp only [go_sem,reduceIte,↓reduceIte,sevalprocAttr,Z0,Z1,bytesOf,gx0,gxk,sx0,sxk,mc12,mr12]
 refine acall_pure (((markExpR _).1 ks (Nat.lt_succ_self _) (by omega)).2 _ v i k (hM.1.keep fun i _ o h=>get_ext h _) h0 (by omega) (by omega)) ?_
 simp only [go_sem,reduceIte,↓reduceIte,sevalprocAttr,Z0,Z1,bytesOf,gx0,gxk,sx0,sxk,d5]
 refine acall_pure (((markExpR _).2 as' (Nat.lt_succ_self _) (by omega)).2 _ w j _ (hM.2.keep fun i _ o h=>get_ext h _) (by omega) (by omega) (by omega)) ?_
 simp only [go_sem,reduceIte,↓reduceIte,sevalprocAttr,Z0,Z1,bytesOf,gx0,gxk,sx0,sxk,d6]
 exact ⟨_,rfl⟩
end
end Go.Proofs.YtghcmccjchdgeaaGreatDoor.Pg
/- ParseExp: the law on the abstract machine. -/
set_option linter.all false
namespace Go.Proofs.YtghcmccjchdgeaaGreatDoor.Pg
open Go.AM Mc Qp
mutual
theorem pvPat (t:PatD):TV.pvC t.tv=t.cells:=by
 match t with
 | .mk k n u p ks=>rw [PatD.tv,PatD.cells]; simp only [TV.pvC,TV.pv,pvPatL ks]
theorem pvPatL (l:List PatD):TV.pvR (PatD.tvL l)=PatD.cellsL l:=by
 match l with
 | []=>rw [PatD.tvL,TV.pvR,PatD.cellsL]
 | t :: l=>rw [PatD.tvL,TV.pvR,PatD.cellsL,pvPat t,pvPatL l]
end
theorem pvC_app (a b:List TV):TV.pvC (a++b)=TV.pvC a++TV.pvC b:=by
 induction a with
 | nil=>rw [TV.pvC]; rfl
 | cons t a ih=>rw [List.cons_append,TV.pvC,TV.pvC,ih]; rfl
mutual
theorem pvExp (t:ExpD):TV.pvC t.tv=t.cells:=by
 match t with
 | .mk k n u x p ks as'=>rw [ExpD.tv,ExpD.cells]; simp only [TV.pvC,TV.pv,pvExpL ks,pvExpA as']
theorem pvExpL (l:List ExpD):TV.pvR (ExpD.tvL l)=ExpD.cellsL l:=by
 match l with
 | []=>rw [ExpD.tvL,TV.pvR,ExpD.cellsL]
 | t :: l=>rw [ExpD.tvL,TV.pvR,ExpD.cellsL,pvExp t,pvExpL l]
theorem pvArm (t:ArmD):TV.pvC t.tv=t.cells:=by
 match t with
 | .mk p e=>rw [ArmD.tv,ArmD.cells,pvC_app,pvPat,pvExp e]
theorem pvExpA (l:List ArmD):TV.pvR (ExpD.tvA l)=ExpD.cellsA l:=by
 match l with
 | []=>rw [ExpD.tvA,TV.pvR,ExpD.cellsA]
 | t :: l=>rw [ExpD.tvA,TV.pvR,ExpD.cellsA,pvArm t,pvExpA l]
end
theorem lentExp {e:ExpD} {H:List AO} {cs:List AV} {ids:List Nat} (h:OwnCs H e.tv cs ids):Lent H (.st cs) (av e.cells):=by
 have h1:=OwnCs.lentC h
 have hlen:=h.len
 rw [pvExp] at h1
 refine .st _ _ (by rw [hlen,ExpD.tv_len,List.length_map,ExpD.cells_len]) fun j c q hc hq=>?_
 rw [List.getElem?_map] at hq
 cases hx:e.cells[j]? with
 | none=>rw [hx] at hq; cases hq
 | some x=>rw [hx] at hq; cases hq; exact h1 j c x hc hx
theorem acall_lendP {f:Nat} {xs bs:List AV} {H:List AO} {r:AV} (h:∀ H,ACall Tryz.prog f bs H (pureQ r H)) (hg:Grnd r) (hl:LentAll H xs bs):ACall Tryz.prog f xs H (pureQ r H):=by
 refine (acall_lend (h []) (by rintro r' H' ⟨rfl,_⟩; exact hg) hl).mono ?_
 rintro r' H' ⟨rfl,H0,rfl,_⟩
 exact ⟨rfl,rfl⟩
theorem lent_av {H:List AO} (l:List PV):Lent H (av l) (av l):=.st _ _ rfl fun j c q hc hq=>by
 rw [hc] at hq; cases hq
 rw [List.getElem?_map] at hc
 cases hx:l[j]? with
 | none=>rw [hx] at hc; cases hc
 | some x=>rw [hx] at hc; cases hc; exact .pure _
theorem own_split {Y:List AO} {k u p:Int} {n t:List UInt8} {ks:List ExpD} {as':List ArmD} {v w:AV} {ids:List Nat} (h:OwnCs Y (ExpD.tv (.mk k n u t p ks as')) [iV k,sV n,iV u,sV t,iV p,v,w] ids):∃ i j,ids=i++j∧Own Y (.s 7 (ExpD.tvL ks)) v i∧Own Y (.s 12 (ExpD.tvA as')) w j:=by
 rw [ExpD.tv] at h
 simp only [OwnCs] at h
 obtain ⟨_,_,_,_,e0,rfl,h0,_,_,_,_,e1,rfl,h1,_,_,_,_,e2,rfl,h2,_,_,_,_,e3,rfl,h3,_,_,_,_,e4,rfl,h4,_,_,_,_,e5,rfl,h5,_,_,_,_,e6,rfl,h6,e7,rfl⟩:=h
 cases e0; cases e1; cases e2; cases e3; cases e4; cases e5; cases e6
 rw [Own] at h0 h1 h2 h3 h4
 obtain ⟨_,rfl⟩:=h0
 obtain ⟨_,rfl⟩:=h1
 obtain ⟨_,rfl⟩:=h2
 obtain ⟨_,rfl⟩:=h3
 obtain ⟨_,rfl⟩:=h4
 exact ⟨_,_,by simp,h5,h6⟩
theorem eqFaultC (c q:Int) (H:List AO):ACall Tryz.prog 10 [ftC c q,ftC c q] H (pureQ (.p (.b true)) H):=by
 refine acall_drop1 ?_ (tf_p _)
 refine call10 (by simp) ?_
 simp only [go_sem,reduceIte,↓reduceIte,sevalprocAttr,Z0,Z1,bytesOf,mc10,mr10,decide_true,Bool.not_true,Bool.and_self]
 exact ⟨_,rfl⟩
theorem parsed1_mc (s:List UInt8):mcC (parsed1 s).1.tv≤1048576:=by
 unfold parsed1
 rcases hl:lexD s with T | ⟨c,i⟩
 ·obtain ⟨hT,hTl⟩:=lexD_ok hl
  simp only
  rw [told_e]
  split
  ·rename_i h0
   split at h0
   ·rename_i hc
    have hb:Bx T (oneP T (iExp T T.length 40 41 1)) phE:=bx_bind (bx_exp hT 41 1 (by omega) (by omega)) fun a=>bx_end (bx_ret (by omega))
    have h1:=hb.le ⟨0,0,0,0,0⟩ hT.pos hc
    have h2:=(hb.st ⟨0,0,0,0,0⟩ hT.pos).2.1
    cases h0
    simp only [phE] at h1
    simp only
    omega
   ·cases h0
  ·show mcC exp0.tv≤_
   rw [exp0,mc_exp]; simp [mcR]
 ·show mcC exp0.tv≤_
  rw [exp0,mc_exp]; simp [mcR]
theorem lawParseExp (s:List UInt8) {H:List AO} (hg:Rg H):ACall Tryz.prog 3 [.p (.s s)] H (fun r _=>r=.p (.b true)):=by
 have hb0:=parsed1_mc s
 have hS:=fun (X:List AO) (h:s.length≤1048576)=>specParse1 (s:=s) (H:=X) h
 have hI:=fun (X:List AO) (h:s.length≤1048576) (hr:Rg X)=>implParse1 (s:=s) (H:=X) h hr
 generalize parsed1 s=R at *
 obtain ⟨⟨k,n,u,t,p,ks,as'⟩,c,q⟩:=R
 have hE:=eqExpA _ (.mk k n u t p ks as') (Nat.lt_succ_self _)
 simp only at hb0 hS hI
 rw [ExpD.tv] at hb0
 simp only [mcC,mcT] at hb0
 have hbM:mcR (ExpD.tvL ks)+mcR (ExpD.tvA as')≤1048576:=by omega
 refine call3 (by simp) ?_
 by_cases hs:s.length≤1048576
 rotate_left
 ·have d1:decide ((1048576:Int)<(s.length:Int))=true:=by simp; omega
  simp only [go_sem,reduceIte,↓reduceIte,sevalprocAttr,Z0,Z1,bytesOf,gx0,gxk,sx0,sxk,mc3,mr3,zl3_0,d1]
  intro _
  trivial
 have d1:decide ((1048576:Int)<(s.length:Int))=false:=by simp; omega
 simp only [go_sem,reduceIte,↓reduceIte,sevalprocAttr,Z0,Z1,bytesOf,gx0,gxk,sx0,sxk,mc3,mr3,zl3_0,d1]
 intro _
 refine acall_pure (hS _ hs) ?_
 simp only [go_sem,reduceIte,↓reduceIte,sevalprocAttr,Z0,Z1,bytesOf,gx0,gxk,sx0,sxk,ExpD.cells]
 refine (hI _ hs (hg.ext _)).mono ?_
 rintro r X2 ⟨cs,G,rfl,rfl,ids,o1,o2,o3,o4⟩
 obtain ⟨v,w,rfl⟩:=Env.expC (ts:=[]) (ds:=[]) (b:=0) (u:=(H++[AO.var [iV k,sV n,iV u,sV t,iV p,.p (.l (ExpD.cellsL ks)),.p (.l (ExpD.cellsA as'))],.var [iV c,iV q]]++G).length) (cs:=cs) ⟨ids,o1,o2,o3,fun i hi=>⟨Nat.zero_le _,(o4 i hi).2⟩⟩ rfl
 have ge:∀ i∈ids,H.length+2≤i:=fun i hi=>by have:=(o4 i hi).1; simp at this; omega
 have z3:(H++[AO.var [iV k,sV n,iV u,sV t,iV p,.p (.l (ExpD.cellsL ks)),.p (.l (ExpD.cellsA as'))],.var [iV c,iV q]]++G)[H.length]?=some (.var [iV k,sV n,iV u,sV t,iV p,.p (.l (ExpD.cellsL ks)),.p (.l (ExpD.cellsA as'))]):=get_ext (by rw [gx0]; rfl) G
 have z4:(H++[AO.var [iV k,sV n,iV u,sV t,iV p,.p (.l (ExpD.cellsL ks)),.p (.l (ExpD.cellsA as'))],.var [iV c,iV q]]++G)[H.length+1]?=some (.var [iV c,iV q]):=get_ext (by rw [gxk]; rfl) G
 have hg2:∀ A,Rg (H++[AO.var [iV k,sV n,iV u,sV t,iV p,.p (.l (ExpD.cellsL ks)),.p (.l (ExpD.cellsA as'))],.var [iV c,iV q]]++G++A):=fun A=>((hg.ext _).ext _).ext _
 obtain ⟨gi,te,pe,hgi⟩:=hg
 have hgl:=get_lt hgi
 have hgY:=get_ext (get_ext hgi [AO.var [iV k,sV n,iV u,sV t,iV p,.p (.l (ExpD.cellsL ks)),.p (.l (ExpD.cellsA as'))],.var [iV c,iV q]]) G
 generalize hY:H++[AO.var [iV k,sV n,iV u,sV t,iV p,.p (.l (ExpD.cellsL ks)),.p (.l (ExpD.cellsA as'))],.var [iV c,iV q]]++G=Y at *
 have z3':∀ A,(Y++A)[H.length]?=_:=fun A=>get_ext z3 A
 have z4':∀ A,(Y++A)[H.length+1]?=_:=fun A=>get_ext z4 A
 have hlt:=get_lt z4
 simp only [go_sem,reduceIte,↓reduceIte,sevalprocAttr,Z0,Z1,bytesOf,gx0,gxk,sx0,sxk,z3']
 have hlent:∀ A,Lent (Y++A) (.st [iV k,sV n,iV u,sV t,iV p,v,w]) (av (ExpD.cells (.mk k n u t p ks as'))):=fun A=>lentExp (o1.keep fun i _ o h=>get_ext h A)
 refine acall_pure (acall_lendP hE (grnd_b _) (lentAll_cons (hlent _) (lentAll_cons (lent_av (H:=_) (ExpD.cells (.mk k n u t p ks as'))) (lentAll_nil _)))) ?_
 simp only [go_sem,reduceIte,↓reduceIte,sevalprocAttr,Z0,Z1,bytesOf,gx0,gxk,sx0,sxk,z4',Bool.not_true,Bool.not_false]
 refine acall_pure (eqFaultC c q _) ?_
 simp only [go_sem,reduceIte,↓reduceIte,sevalprocAttr,Z0,Z1,bytesOf,gx0,gxk,sx0,sxk,Bool.not_true,Bool.not_false]
 obtain ⟨i5,i6,rfl,p5,p6⟩:=own_split o1
 refine (markExpN hbM (p5.keep fun i _ o h=>get_ext h _) (p6.keep fun i _ o h=>get_ext h _) o2 (by omega) (by omega)).mono ?_
 rintro _ Z ⟨rfl,hM,hf⟩
 have hlow:∀ (i:Nat) (o:AO),i<H.length+2→Y[i]?=some o→Z[i]?=some o:=fun i o hi ho=>hf i o (get_ext ho _) fun hm=>by have:=ge i hm; omega
 have x3:=hlow _ _ (by omega) z3
 have x4:=hlow _ _ (by omega) z4
 have xg:=hlow _ _ (by omega) hgY
 have x5:Z[Y.length]?=some (.var [iV k,sV n,iV u,sV t,iV p,v,w]):=hf _ _ (by rw [gx0]; rfl) fun hm=>by have:=(o4 _ hm).2; omega
 have dq:decide ((1:Int)+mcR (ExpD.tvL ks)+mcR (ExpD.tvA as')<0)=false:=decide_eq_false (by omega)
 simp only [go_sem,reduceIte,↓reduceIte,sevalprocAttr,Z0,Z1,bytesOf,gx0,gxk,sx0,sxk,x5]
 refine (heldExpN hbM hM (by omega) (by omega)).mono ?_
 rintro _ _ ⟨rfl,G2,rfl⟩
 simp only [go_sem,reduceIte,↓reduceIte,sevalprocAttr,Z0,Z1,bytesOf,gx0,gxk,sx0,sxk,dq,decide_true,Bool.not_true,Bool.not_false]
 refine (hI _ hs ⟨gi,te,pe,get_ext xg _⟩).mono ?_
 rintro r _ ⟨cs,G3,rfl,rfl,hE3⟩
 obtain ⟨v2,w2,rfl⟩:=Env.expC (ts:=[]) (ds:=[]) (cs:=cs) hE3 rfl
 obtain ⟨ids3,o13,_⟩:=hE3
 have y3:∀ A,(Z++G2++G3++A)[H.length]?=_:=fun A=>get_ext (get_ext (get_ext x3 _) _) A
 have y4:∀ A,(Z++G2++G3++A)[H.length+1]?=_:=fun A=>get_ext (get_ext (get_ext x4 _) _) A
 have y5:∀ A,(Z++G2++G3++A)[Y.length]?=_:=fun A=>get_ext (get_ext (get_ext x5 _) _) A
 have hM3:=fun A=>hM.keep (H':=Z++G2++G3++A) fun i _ o h=>get_ext (get_ext (get_ext h _) _) A
 have hlent3:∀ A,Lent (Z++G2++G3++A) (.st [iV k,sV n,iV u,sV t,iV p,v2,w2]) (av (ExpD.cells (.mk k n u t p ks as'))):=fun A=>lentExp (o13.keep fun i _ o h=>get_ext h A)
 generalize Z++G2++G3=Z3 at *
 simp only [go_sem,reduceIte,↓reduceIte,sevalprocAttr,Z0,Z1,bytesOf,gx0,gxk,sx0,sxk,y3]
 refine acall_pure (acall_lendP hE (grnd_b _) (lentAll_cons (hlent3 _) (lentAll_cons (lent_av (H:=_) (ExpD.cells (.mk k n u t p ks as'))) (lentAll_nil _)))) ?_
 simp only [go_sem,reduceIte,↓reduceIte,sevalprocAttr,Z0,Z1,bytesOf,gx0,gxk,sx0,sxk,y4,Bool.not_true,Bool.not_false]
 refine acall_pure (eqFaultC c q _) ?_
 simp only [go_sem,reduceIte,↓reduceIte,sevalprocAttr,Z0,Z1,bytesOf,gx0,gxk,sx0,sxk,Bool.not_true,Bool.not_false,y5]
 refine (heldExpN hbM (hM3 _) (by omega) (by omega)).mono ?_
 rintro _ _ ⟨rfl,G4,rfl⟩
 simp only [go_sem,reduceIte,↓reduceIte,sevalprocAttr,Z0,Z1,bytesOf,gx0,gxk,sx0,sxk,dq,decide_true,Bool.not_true,Bool.not_false]
end Go.Proofs.YtghcmccjchdgeaaGreatDoor.Pg