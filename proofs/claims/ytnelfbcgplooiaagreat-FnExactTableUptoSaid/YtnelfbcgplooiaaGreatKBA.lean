/- Texts PgC PjI PgA PgB PgF PgG PgH, merged. -/
import Derived.Test.YtnelfbcgplooiaaGreatAm37
import Derived.Test.YtnelfbcgplooiaaGreatChecked
import Derived.KernelRfl
/- THE SMALL CODES of functions 3 5 7 9 10 17 18 20 21 23 24 43 44 45 49 50 51 57 58 59 80 81 82 84 85 86 89 90 91 113 114 115 116 119 120 140 141 142 143 144 145 150 151 152, and their ties to the program (printed by wip/tools/mkties2.py). -/
set_option linter.all false
namespace Go.Proofs.YtnelfbcgplooiaaGreat.Mc
open Go.AM
def zl3_0:List AV:=[.p (.nl),.p (.i .i64 0),.p (.s []),.p (.i .i64 0),.p (.s []),.p (.i .i64 0),.p (.nl),.p (.nl)]
def zl3_1:List AV:=[.p (.i .i64 0),.p (.s []),.p (.i .i64 0),.p (.s []),.p (.i .i64 0),.p (.nl),.p (.nl)]
def zl3_2:List AV:=[.p (.i .i64 0),.p (.s []),.p (.i .i64 0),.p (.i .i64 0),.p (.nl),.p (.i .i64 0),.p (.s []),.p (.i .i64 0),.p (.s []),.p (.i .i64 0),.p (.nl),.p (.nl)]
def zl3_3:List AV:=[.p (.s []),.p (.b false),.p (.i .i64 0),.p (.s []),.p (.i .i64 0),.p (.nl),.p (.i .i64 0)]
/- laws.FnExactScope -/
/- laws.szProg -/
def lv5:List Nat:=[0,1,2,4,10,16]
def mc5:MC :=
.seq (.reg [
 iL 2 (.box 8 (.l 0)),iL 4 (.mv (cI 0))]) (
 .seq (.reg [
 iT 5 (.fad 0 (.l 2)),iT 6 (.ld false 1 (.t 5)),iT 7 (.mv (.l 1)),iT 8 (.call 17 [.t 6,.t 7]),iL 1 (.mv (.t 8))]) (
 .seq (.seq (.reg [
 iT 9 (.mv (.l 1)),iL 10 (.bin .lss (.t 9) (cI 0))]) (
 .cond (.l 10) (
 .seq (.reg [
 iL 4 (.mv (cI (-1)))]) (
 .ret)) (
 .skip))) (
 .seq (.reg [
 iT 11 (.fad 1 (.l 2)),iT 12 (.ld true 7 (.t 11)),iT 13 (.mv (.l 1)),iT 14 (.call 18 [.t 12,.t 13]),iL 1 (.mv (.t 14))]) (
 .seq (.seq (.reg [
 iT 15 (.mv (.l 1)),iL 16 (.bin .lss (.t 15) (cI 0))]) (
 .cond (.l 16) (
 .seq (.reg [
 iL 4 (.mv (cI (-1)))]) (
 .ret)) (
 .skip))) (
 .seq (.reg [
 iT 17 (.mv (.l 1)),iL 4 (.mv (.t 17))]) (
 .ret))))))
theorem mc5_eq:(Tryz.f5.body.map (compile lv5 Tryz.prog 18))=some mc5:=by kernel_rfl
def mr5:List MR:=[.t 4]
theorem mr5_eq:cRess lv5 Tryz.prog Tryz.f5.results.toList=some mr5:=by kernel_rfl
theorem call5:CallT Tryz.prog 5 18 mc5 mr5:=acall_mc (by kernel_rfl) Tryz.func5 mc5_eq Tryz.ntmps5 (by kernel_rfl) mr5_eq
/- laws.toProg -/
def lv7:List Nat:=[0,1,2,3]
def mc7:MC :=
.seq (.reg [
 iL 1 (.box 8 (.l 0)),iL 2 (.alloc zl3_0)]) (
 .seq (.reg [
 iL 3 (.alloc zl3_0)]) (
 .seq (.reg [
 iT 4 (.fad 0 (.l 1)),iT 5 (.ld false 1 (.t 4)),iT 6 (.call 20 [.t 5]),iT 7 (.fad 0 (.l 3)),iN (.sto 1 (.t 7) (.t 6))]) (
 .seq (.reg [
 iT 8 (.fad 1 (.l 1)),iT 9 (.ld true 7 (.t 8)),iT 10 (.call 21 [.t 9]),iT 11 (.fad 1 (.l 3)),iN (.sto 7 (.t 11) (.t 10))]) (
 .seq (.reg [
 iT 12 (.ld true 8 (.l 3)),iN (.sto 8 (.l 2) (.t 12))]) (
 .ret)))))
theorem mc7_eq:(Tryz.f7.body.map (compile lv7 Tryz.prog 13))=some mc7:=by kernel_rfl
def mr7:List MR:=[.cell true 8 2]
theorem mr7_eq:cRess lv7 Tryz.prog Tryz.f7.results.toList=some mr7:=by kernel_rfl
theorem call7:CallT Tryz.prog 7 13 mc7 mr7:=acall_mc (by kernel_rfl) Tryz.func7 mc7_eq Tryz.ntmps7 (by kernel_rfl) mr7_eq
/- laws.eqFault -/
def lv9:List Nat:=[0,1,2,3,4,9,14]
def mc9:MC :=
.seq (.reg [
 iL 2 (.box 2 (.l 0)),iL 3 (.box 2 (.l 1)),iL 4 (.mv (.c (.p (.b false))))]) (
 .seq (.seq (.reg [
 iT 5 (.fad 0 (.l 2)),iT 6 (.ld false 1 (.t 5)),iT 7 (.fad 0 (.l 3)),iT 8 (.ld false 1 (.t 7)),iL 9 (.bin .neq (.t 6) (.t 8))]) (
 .cond (.l 9) (
 .seq (.reg [
 iL 4 (.mv (.c (.p (.b false))))]) (
 .ret)) (
 .skip))) (
 .seq (.seq (.reg [
 iT 10 (.fad 1 (.l 2)),iT 11 (.ld false 1 (.t 10)),iT 12 (.fad 1 (.l 3)),iT 13 (.ld false 1 (.t 12)),iL 14 (.bin .neq (.t 11) (.t 13))]) (
 .cond (.l 14) (
 .seq (.reg [
 iL 4 (.mv (.c (.p (.b false))))]) (
 .ret)) (
 .skip))) (
 .seq (.reg [
 iL 4 (.mv (.c (.p (.b true))))]) (
 .ret))))
theorem mc9_eq:(Tryz.f9.body.map (compile lv9 Tryz.prog 15))=some mc9:=by kernel_rfl
def mr9:List MR:=[.t 4]
theorem mr9_eq:cRess lv9 Tryz.prog Tryz.f9.results.toList=some mr9:=by kernel_rfl
theorem call9:CallT Tryz.prog 9 15 mc9 mr9:=acall_mc (by kernel_rfl) Tryz.func9 mc9_eq Tryz.ntmps9 (by kernel_rfl) mr9_eq
/- laws.eqProg -/
def lv10:List Nat:=[0,1,2,3,4,10,16]
def mc10:MC :=
.seq (.reg [
 iL 2 (.box 8 (.l 0)),iL 3 (.box 8 (.l 1)),iL 4 (.mv (.c (.p (.b false))))]) (
 .seq (.seq (.reg [
 iT 5 (.fad 0 (.l 2)),iT 6 (.ld false 1 (.t 5)),iT 7 (.fad 0 (.l 3)),iT 8 (.ld false 1 (.t 7)),iT 9 (.call 23 [.t 6,.t 8]),iL 10 (.un .not (.t 9))]) (
 .cond (.l 10) (
 .seq (.reg [
 iL 4 (.mv (.c (.p (.b false))))]) (
 .ret)) (
 .skip))) (
 .seq (.seq (.reg [
 iT 11 (.fad 1 (.l 2)),iT 12 (.ld true 7 (.t 11)),iT 13 (.fad 1 (.l 3)),iT 14 (.ld true 7 (.t 13)),iT 15 (.call 24 [.t 12,.t 14]),iL 16 (.un .not (.t 15))]) (
 .cond (.l 16) (
 .seq (.reg [
 iL 4 (.mv (.c (.p (.b false))))]) (
 .ret)) (
 .skip))) (
 .seq (.reg [
 iL 4 (.mv (.c (.p (.b true))))]) (
 .ret))))
theorem mc10_eq:(Tryz.f10.body.map (compile lv10 Tryz.prog 17))=some mc10:=by kernel_rfl
def mr10:List MR:=[.t 4]
theorem mr10_eq:cRess lv10 Tryz.prog Tryz.f10.results.toList=some mr10:=by kernel_rfl
theorem call10:CallT Tryz.prog 10 17 mc10 mr10:=acall_mc (by kernel_rfl) Tryz.func10 mc10_eq Tryz.ntmps10 (by kernel_rfl) mr10_eq
/- laws.szDataS -/
def lv17:List Nat:=[0,1,4,5,11,15,25]
def mc17:MC :=
.seq (.reg [
 iL 4 (.mv (cI 0))]) (
 .seq (.reg [
 iT 6 (.mv (.l 1)),iT 7 (.mv (.l 0)),iT 8 (.len false (.t 7)),iT 9 (.bin .sub (.t 6) (.t 8)),iL 1 (.mv (.t 9))]) (
 .seq (.seq (.reg [
 iT 10 (.mv (.l 1)),iL 11 (.bin .lss (.t 10) (cI 0))]) (
 .cond (.l 11) (
 .seq (.reg [
 iL 4 (.mv (cI (-1)))]) (
 .ret)) (
 .skip))) (
 .seq (.seq (.reg [
 iL 5 (.mv (cI 0))]) (
 .blk 0 (
 .loop (
 .seq (.seq (.reg [
 iT 12 (.mv (.l 5)),iT 13 (.mv (.l 0)),iT 14 (.len false (.t 13)),iL 15 (.bin .lss (.t 12) (.t 14))]) (
 .cond (.l 15) (
 .skip) (
 .exit 0))) (
 .seq (.blk 1 (
 .seq (.reg [
 iT 18 (.mv (.l 0)),iT 19 (.mv (.l 5)),iT 20 (.ixs 4 (.t 18) (.t 19)),iT 21 (.ld true 4 (.t 20)),iT 22 (.mv (.l 1)),iT 23 (.call 43 [.t 21,.t 22]),iL 1 (.mv (.t 23))]) (
 .seq (.reg [
 iT 24 (.mv (.l 1)),iL 25 (.bin .lss (.t 24) (cI 0))]) (
 .cond (.l 25) (
 .seq (.reg [
 iL 4 (.mv (cI (-1)))]) (
 .ret)) (
 .skip))))) (
 .reg [
 iT 16 (.mv (.l 5)),iT 17 (.bin .add (.t 16) (cI 1)),iL 5 (.mv (.t 17))])))))) (
 .seq (.reg [
 iT 26 (.mv (.l 1)),iL 4 (.mv (.t 26))]) (
 .ret)))))
theorem mc17_eq:(Tryz.f17.body.map (compile lv17 Tryz.prog 27))=some mc17:=by kernel_rfl
def mr17:List MR:=[.t 4]
theorem mr17_eq:cRess lv17 Tryz.prog Tryz.f17.results.toList=some mr17:=by kernel_rfl
theorem call17:CallT Tryz.prog 17 27 mc17 mr17:=acall_mc (by kernel_rfl) Tryz.func17 mc17_eq Tryz.ntmps17 (by kernel_rfl) mr17_eq
/- laws.szExp -/
def lv18:List Nat:=[0,1,2,4,11,18,24,30]
def mc18:MC :=
.seq (.reg [
 iL 2 (.box 7 (.l 0)),iL 4 (.mv (cI 0))]) (
 .seq (.reg [
 iT 5 (.mv (.l 1)),iT 6 (.fad 1 (.l 2)),iT 7 (.ld false 1 (.t 6)),iT 8 (.len true (.t 7)),iT 9 (.bin .sub (.t 5) (.t 8)),iL 1 (.mv (.t 9))]) (
 .seq (.seq (.reg [
 iT 10 (.mv (.l 1)),iL 11 (.bin .lss (.t 10) (cI 0))]) (
 .cond (.l 11) (
 .seq (.reg [
 iL 4 (.mv (cI (-1)))]) (
 .ret)) (
 .skip))) (
 .seq (.reg [
 iT 12 (.mv (.l 1)),iT 13 (.fad 3 (.l 2)),iT 14 (.ld false 1 (.t 13)),iT 15 (.len true (.t 14)),iT 16 (.bin .sub (.t 12) (.t 15)),iL 1 (.mv (.t 16))]) (
 .seq (.seq (.reg [
 iT 17 (.mv (.l 1)),iL 18 (.bin .lss (.t 17) (cI 0))]) (
 .cond (.l 18) (
 .seq (.reg [
 iL 4 (.mv (cI (-1)))]) (
 .ret)) (
 .skip))) (
 .seq (.reg [
 iT 19 (.fad 5 (.l 2)),iT 20 (.ld false 1 (.t 19)),iT 21 (.mv (.l 1)),iT 22 (.call 44 [.t 20,.t 21]),iL 1 (.mv (.t 22))]) (
 .seq (.seq (.reg [
 iT 23 (.mv (.l 1)),iL 24 (.bin .lss (.t 23) (cI 0))]) (
 .cond (.l 24) (
 .seq (.reg [
 iL 4 (.mv (cI (-1)))]) (
 .ret)) (
 .skip))) (
 .seq (.reg [
 iT 25 (.fad 6 (.l 2)),iT 26 (.ld false 1 (.t 25)),iT 27 (.mv (.l 1)),iT 28 (.call 45 [.t 26,.t 27]),iL 1 (.mv (.t 28))]) (
 .seq (.seq (.reg [
 iT 29 (.mv (.l 1)),iL 30 (.bin .lss (.t 29) (cI 0))]) (
 .cond (.l 30) (
 .seq (.reg [
 iL 4 (.mv (cI (-1)))]) (
 .ret)) (
 .skip))) (
 .seq (.reg [
 iT 31 (.mv (.l 1)),iL 4 (.mv (.t 31))]) (
 .ret))))))))))
theorem mc18_eq:(Tryz.f18.body.map (compile lv18 Tryz.prog 32))=some mc18:=by kernel_rfl
def mr18:List MR:=[.t 4]
theorem mr18_eq:cRess lv18 Tryz.prog Tryz.f18.results.toList=some mr18:=by kernel_rfl
theorem call18:CallT Tryz.prog 18 32 mc18 mr18:=acall_mc (by kernel_rfl) Tryz.func18 mc18_eq Tryz.ntmps18 (by kernel_rfl) mr18_eq
/- laws.toDataS -/
def lv20:List Nat:=[0,2,3,4,11]
def mc20:MC :=
.seq (.reg [
 iL 2 (.mv (.c (.p (.nl))))]) (
 .seq (.reg [
 iT 5 (.mv (.l 0)),iT 6 (.len false (.t 5)),iT 7 (.mks 4 72 [.p (.s []),.p (.nl),.p (.nl),.p (.i .i64 0)] (.t 6) (.t 6)),iL 3 (.mv (.t 7))]) (
 .seq (.seq (.reg [
 iL 4 (.mv (cI 0))]) (
 .blk 0 (
 .loop (
 .seq (.seq (.reg [
 iT 8 (.mv (.l 4)),iT 9 (.mv (.l 0)),iT 10 (.len false (.t 9)),iL 11 (.bin .lss (.t 8) (.t 10))]) (
 .cond (.l 11) (
 .skip) (
 .exit 0))) (
 .seq (.blk 1 (
 .reg [
 iT 14 (.mv (.l 3)),iT 15 (.mv (.l 4)),iT 16 (.mv (.l 0)),iT 17 (.mv (.l 4)),iT 18 (.ixs 4 (.t 16) (.t 17)),iT 19 (.ld true 4 (.t 18)),iT 20 (.call 49 [.t 19]),iT 21 (.ixs 4 (.t 14) (.t 15)),iN (.sto 4 (.t 21) (.t 20))])) (
 .reg [
 iT 12 (.mv (.l 4)),iT 13 (.bin .add (.t 12) (cI 1)),iL 4 (.mv (.t 13))])))))) (
 .seq (.reg [
 iT 22 (.mv (.l 3)),iL 2 (.mv (.t 22))]) (
 .ret))))
theorem mc20_eq:(Tryz.f20.body.map (compile lv20 Tryz.prog 23))=some mc20:=by kernel_rfl
def mr20:List MR:=[.t 2]
theorem mr20_eq:cRess lv20 Tryz.prog Tryz.f20.results.toList=some mr20:=by kernel_rfl
theorem call20:CallT Tryz.prog 20 23 mc20 mr20:=acall_mc (by kernel_rfl) Tryz.func20 mc20_eq Tryz.ntmps20 (by kernel_rfl) mr20_eq
/- laws.toExp -/
def lv21:List Nat:=[0,1,2,3]
def mc21:MC :=
.seq (.reg [
 iL 1 (.box 7 (.l 0)),iL 2 (.alloc zl3_1)]) (
 .seq (.reg [
 iL 3 (.alloc zl3_1)]) (
 .seq (.reg [
 iT 4 (.fad 0 (.l 1)),iT 5 (.ld false 1 (.t 4)),iT 6 (.fad 0 (.l 3)),iN (.sto 1 (.t 6) (.t 5))]) (
 .seq (.reg [
 iT 7 (.fad 1 (.l 1)),iT 8 (.ld false 1 (.t 7)),iT 9 (.fad 1 (.l 3)),iN (.sto 1 (.t 9) (.t 8))]) (
 .seq (.reg [
 iT 10 (.fad 2 (.l 1)),iT 11 (.ld false 1 (.t 10)),iT 12 (.fad 2 (.l 3)),iN (.sto 1 (.t 12) (.t 11))]) (
 .seq (.reg [
 iT 13 (.fad 3 (.l 1)),iT 14 (.ld false 1 (.t 13)),iT 15 (.fad 3 (.l 3)),iN (.sto 1 (.t 15) (.t 14))]) (
 .seq (.reg [
 iT 16 (.fad 4 (.l 1)),iT 17 (.ld false 1 (.t 16)),iT 18 (.fad 4 (.l 3)),iN (.sto 1 (.t 18) (.t 17))]) (
 .seq (.reg [
 iT 19 (.fad 5 (.l 1)),iT 20 (.ld false 1 (.t 19)),iT 21 (.call 50 [.t 20]),iT 22 (.fad 5 (.l 3)),iN (.sto 1 (.t 22) (.t 21))]) (
 .seq (.reg [
 iT 23 (.fad 6 (.l 1)),iT 24 (.ld false 1 (.t 23)),iT 25 (.call 51 [.t 24]),iT 26 (.fad 6 (.l 3)),iN (.sto 1 (.t 26) (.t 25))]) (
 .seq (.reg [
 iT 27 (.ld true 7 (.l 3)),iN (.sto 7 (.l 2) (.t 27))]) (
 .ret))))))))))
theorem mc21_eq:(Tryz.f21.body.map (compile lv21 Tryz.prog 28))=some mc21:=by kernel_rfl
def mr21:List MR:=[.cell true 7 2]
theorem mr21_eq:cRess lv21 Tryz.prog Tryz.f21.results.toList=some mr21:=by kernel_rfl
theorem call21:CallT Tryz.prog 21 28 mc21 mr21:=acall_mc (by kernel_rfl) Tryz.func21 mc21_eq Tryz.ntmps21 (by kernel_rfl) mr21_eq
/- laws.eqDataS -/
def lv23:List Nat:=[0,1,4,5,10,14,26]
def mc23:MC :=
.seq (.reg [
 iL 4 (.mv (.c (.p (.b false))))]) (
 .seq (.seq (.reg [
 iT 6 (.mv (.l 0)),iT 7 (.len false (.t 6)),iT 8 (.mv (.l 1)),iT 9 (.len false (.t 8)),iL 10 (.bin .neq (.t 7) (.t 9))]) (
 .cond (.l 10) (
 .seq (.reg [
 iL 4 (.mv (.c (.p (.b false))))]) (
 .ret)) (
 .skip))) (
 .seq (.seq (.reg [
 iL 5 (.mv (cI 0))]) (
 .blk 0 (
 .loop (
 .seq (.seq (.reg [
 iT 11 (.mv (.l 5)),iT 12 (.mv (.l 0)),iT 13 (.len false (.t 12)),iL 14 (.bin .lss (.t 11) (.t 13))]) (
 .cond (.l 14) (
 .skip) (
 .exit 0))) (
 .seq (.blk 1 (
 .seq (.drw [
 iT 17 (.mv (.l 0)),iT 18 (.mv (.l 5)),iT 19 (.ixs 4 (.t 17) (.t 18)),iT 20 (.ld true 4 (.t 19)),iT 21 (.mv (.l 1)),iT 22 (.mv (.l 5)),iT 23 (.ixs 4 (.t 21) (.t 22)),iT 24 (.ld true 4 (.t 23))] [
 iT 25 (.call 57 [.t 20,.t 24]),iL 26 (.un .not (.t 25))]) (
 .cond (.l 26) (
 .seq (.reg [
 iL 4 (.mv (.c (.p (.b false))))]) (
 .ret)) (
 .skip)))) (
 .reg [
 iT 15 (.mv (.l 5)),iT 16 (.bin .add (.t 15) (cI 1)),iL 5 (.mv (.t 16))])))))) (
 .seq (.reg [
 iL 4 (.mv (.c (.p (.b true))))]) (
 .ret))))
theorem mc23_eq:(Tryz.f23.body.map (compile lv23 Tryz.prog 27))=some mc23:=by kernel_rfl
def mr23:List MR:=[.t 4]
theorem mr23_eq:cRess lv23 Tryz.prog Tryz.f23.results.toList=some mr23:=by kernel_rfl
theorem call23:CallT Tryz.prog 23 27 mc23 mr23:=acall_mc (by kernel_rfl) Tryz.func23 mc23_eq Tryz.ntmps23 (by kernel_rfl) mr23_eq
/- laws.eqExp -/
def lv24:List Nat:=[0,1,2,3,4,9,14,19,24,29,35,41]
def mc24:MC :=
.seq (.reg [
 iL 2 (.box 7 (.l 0)),iL 3 (.box 7 (.l 1)),iL 4 (.mv (.c (.p (.b false))))]) (
 .seq (.seq (.reg [
 iT 5 (.fad 0 (.l 2)),iT 6 (.ld false 1 (.t 5)),iT 7 (.fad 0 (.l 3)),iT 8 (.ld false 1 (.t 7)),iL 9 (.bin .neq (.t 6) (.t 8))]) (
 .cond (.l 9) (
 .seq (.reg [
 iL 4 (.mv (.c (.p (.b false))))]) (
 .ret)) (
 .skip))) (
 .seq (.seq (.reg [
 iT 10 (.fad 1 (.l 2)),iT 11 (.ld false 1 (.t 10)),iT 12 (.fad 1 (.l 3)),iT 13 (.ld false 1 (.t 12)),iL 14 (.bin .neq (.t 11) (.t 13))]) (
 .cond (.l 14) (
 .seq (.reg [
 iL 4 (.mv (.c (.p (.b false))))]) (
 .ret)) (
 .skip))) (
 .seq (.seq (.reg [
 iT 15 (.fad 2 (.l 2)),iT 16 (.ld false 1 (.t 15)),iT 17 (.fad 2 (.l 3)),iT 18 (.ld false 1 (.t 17)),iL 19 (.bin .neq (.t 16) (.t 18))]) (
 .cond (.l 19) (
 .seq (.reg [
 iL 4 (.mv (.c (.p (.b false))))]) (
 .ret)) (
 .skip))) (
 .seq (.seq (.reg [
 iT 20 (.fad 3 (.l 2)),iT 21 (.ld false 1 (.t 20)),iT 22 (.fad 3 (.l 3)),iT 23 (.ld false 1 (.t 22)),iL 24 (.bin .neq (.t 21) (.t 23))]) (
 .cond (.l 24) (
 .seq (.reg [
 iL 4 (.mv (.c (.p (.b false))))]) (
 .ret)) (
 .skip))) (
 .seq (.seq (.reg [
 iT 25 (.fad 4 (.l 2)),iT 26 (.ld false 1 (.t 25)),iT 27 (.fad 4 (.l 3)),iT 28 (.ld false 1 (.t 27)),iL 29 (.bin .neq (.t 26) (.t 28))]) (
 .cond (.l 29) (
 .seq (.reg [
 iL 4 (.mv (.c (.p (.b false))))]) (
 .ret)) (
 .skip))) (
 .seq (.seq (.reg [
 iT 30 (.fad 5 (.l 2)),iT 31 (.ld false 1 (.t 30)),iT 32 (.fad 5 (.l 3)),iT 33 (.ld false 1 (.t 32)),iT 34 (.call 58 [.t 31,.t 33]),iL 35 (.un .not (.t 34))]) (
 .cond (.l 35) (
 .seq (.reg [
 iL 4 (.mv (.c (.p (.b false))))]) (
 .ret)) (
 .skip))) (
 .seq (.seq (.reg [
 iT 36 (.fad 6 (.l 2)),iT 37 (.ld false 1 (.t 36)),iT 38 (.fad 6 (.l 3)),iT 39 (.ld false 1 (.t 38)),iT 40 (.call 59 [.t 37,.t 39]),iL 41 (.un .not (.t 40))]) (
 .cond (.l 41) (
 .seq (.reg [
 iL 4 (.mv (.c (.p (.b false))))]) (
 .ret)) (
 .skip))) (
 .seq (.reg [
 iL 4 (.mv (.c (.p (.b true))))]) (
 .ret)))))))))
theorem mc24_eq:(Tryz.f24.body.map (compile lv24 Tryz.prog 42))=some mc24:=by kernel_rfl
def mr24:List MR:=[.t 4]
theorem mr24_eq:cRess lv24 Tryz.prog Tryz.f24.results.toList=some mr24:=by kernel_rfl
theorem call24:CallT Tryz.prog 24 42 mc24 mr24:=acall_mc (by kernel_rfl) Tryz.func24 mc24_eq Tryz.ntmps24 (by kernel_rfl) mr24_eq
/- laws.szData -/
def lv43:List Nat:=[0,1,2,4,11,17,23]
def mc43:MC :=
.seq (.reg [
 iL 2 (.box 4 (.l 0)),iL 4 (.mv (cI 0))]) (
 .seq (.reg [
 iT 5 (.mv (.l 1)),iT 6 (.fad 0 (.l 2)),iT 7 (.ld false 1 (.t 6)),iT 8 (.len true (.t 7)),iT 9 (.bin .sub (.t 5) (.t 8)),iL 1 (.mv (.t 9))]) (
 .seq (.seq (.reg [
 iT 10 (.mv (.l 1)),iL 11 (.bin .lss (.t 10) (cI 0))]) (
 .cond (.l 11) (
 .seq (.reg [
 iL 4 (.mv (cI (-1)))]) (
 .ret)) (
 .skip))) (
 .seq (.reg [
 iT 12 (.fad 1 (.l 2)),iT 13 (.ld false 1 (.t 12)),iT 14 (.mv (.l 1)),iT 15 (.call 80 [.t 13,.t 14]),iL 1 (.mv (.t 15))]) (
 .seq (.seq (.reg [
 iT 16 (.mv (.l 1)),iL 17 (.bin .lss (.t 16) (cI 0))]) (
 .cond (.l 17) (
 .seq (.reg [
 iL 4 (.mv (cI (-1)))]) (
 .ret)) (
 .skip))) (
 .seq (.reg [
 iT 18 (.fad 2 (.l 2)),iT 19 (.ld false 1 (.t 18)),iT 20 (.mv (.l 1)),iT 21 (.call 81 [.t 19,.t 20]),iL 1 (.mv (.t 21))]) (
 .seq (.seq (.reg [
 iT 22 (.mv (.l 1)),iL 23 (.bin .lss (.t 22) (cI 0))]) (
 .cond (.l 23) (
 .seq (.reg [
 iL 4 (.mv (cI (-1)))]) (
 .ret)) (
 .skip))) (
 .seq (.reg [
 iT 24 (.mv (.l 1)),iL 4 (.mv (.t 24))]) (
 .ret))))))))
theorem mc43_eq:(Tryz.f43.body.map (compile lv43 Tryz.prog 25))=some mc43:=by kernel_rfl
def mr43:List MR:=[.t 4]
theorem mr43_eq:cRess lv43 Tryz.prog Tryz.f43.results.toList=some mr43:=by kernel_rfl
theorem call43:CallT Tryz.prog 43 25 mc43 mr43:=acall_mc (by kernel_rfl) Tryz.func43 mc43_eq Tryz.ntmps43 (by kernel_rfl) mr43_eq
/- laws.szExpS -/
def lv44:List Nat:=[0,1,4,5,11,15,25]
def mc44:MC :=
.seq (.reg [
 iL 4 (.mv (cI 0))]) (
 .seq (.reg [
 iT 6 (.mv (.l 1)),iT 7 (.mv (.l 0)),iT 8 (.len false (.t 7)),iT 9 (.bin .sub (.t 6) (.t 8)),iL 1 (.mv (.t 9))]) (
 .seq (.seq (.reg [
 iT 10 (.mv (.l 1)),iL 11 (.bin .lss (.t 10) (cI 0))]) (
 .cond (.l 11) (
 .seq (.reg [
 iL 4 (.mv (cI (-1)))]) (
 .ret)) (
 .skip))) (
 .seq (.seq (.reg [
 iL 5 (.mv (cI 0))]) (
 .blk 0 (
 .loop (
 .seq (.seq (.reg [
 iT 12 (.mv (.l 5)),iT 13 (.mv (.l 0)),iT 14 (.len false (.t 13)),iL 15 (.bin .lss (.t 12) (.t 14))]) (
 .cond (.l 15) (
 .skip) (
 .exit 0))) (
 .seq (.blk 1 (
 .seq (.reg [
 iT 18 (.mv (.l 0)),iT 19 (.mv (.l 5)),iT 20 (.ixs 7 (.t 18) (.t 19)),iT 21 (.ld true 7 (.t 20)),iT 22 (.mv (.l 1)),iT 23 (.call 18 [.t 21,.t 22]),iL 1 (.mv (.t 23))]) (
 .seq (.reg [
 iT 24 (.mv (.l 1)),iL 25 (.bin .lss (.t 24) (cI 0))]) (
 .cond (.l 25) (
 .seq (.reg [
 iL 4 (.mv (cI (-1)))]) (
 .ret)) (
 .skip))))) (
 .reg [
 iT 16 (.mv (.l 5)),iT 17 (.bin .add (.t 16) (cI 1)),iL 5 (.mv (.t 17))])))))) (
 .seq (.reg [
 iT 26 (.mv (.l 1)),iL 4 (.mv (.t 26))]) (
 .ret)))))
theorem mc44_eq:(Tryz.f44.body.map (compile lv44 Tryz.prog 27))=some mc44:=by kernel_rfl
def mr44:List MR:=[.t 4]
theorem mr44_eq:cRess lv44 Tryz.prog Tryz.f44.results.toList=some mr44:=by kernel_rfl
theorem call44:CallT Tryz.prog 44 27 mc44 mr44:=acall_mc (by kernel_rfl) Tryz.func44 mc44_eq Tryz.ntmps44 (by kernel_rfl) mr44_eq
/- laws.szArmS -/
def lv45:List Nat:=[0,1,4,5,11,15,25]
def mc45:MC :=
.seq (.reg [
 iL 4 (.mv (cI 0))]) (
 .seq (.reg [
 iT 6 (.mv (.l 1)),iT 7 (.mv (.l 0)),iT 8 (.len false (.t 7)),iT 9 (.bin .sub (.t 6) (.t 8)),iL 1 (.mv (.t 9))]) (
 .seq (.seq (.reg [
 iT 10 (.mv (.l 1)),iL 11 (.bin .lss (.t 10) (cI 0))]) (
 .cond (.l 11) (
 .seq (.reg [
 iL 4 (.mv (cI (-1)))]) (
 .ret)) (
 .skip))) (
 .seq (.seq (.reg [
 iL 5 (.mv (cI 0))]) (
 .blk 0 (
 .loop (
 .seq (.seq (.reg [
 iT 12 (.mv (.l 5)),iT 13 (.mv (.l 0)),iT 14 (.len false (.t 13)),iL 15 (.bin .lss (.t 12) (.t 14))]) (
 .cond (.l 15) (
 .skip) (
 .exit 0))) (
 .seq (.blk 1 (
 .seq (.reg [
 iT 18 (.mv (.l 0)),iT 19 (.mv (.l 5)),iT 20 (.ixs 12 (.t 18) (.t 19)),iT 21 (.ld true 12 (.t 20)),iT 22 (.mv (.l 1)),iT 23 (.call 82 [.t 21,.t 22]),iL 1 (.mv (.t 23))]) (
 .seq (.reg [
 iT 24 (.mv (.l 1)),iL 25 (.bin .lss (.t 24) (cI 0))]) (
 .cond (.l 25) (
 .seq (.reg [
 iL 4 (.mv (cI (-1)))]) (
 .ret)) (
 .skip))))) (
 .reg [
 iT 16 (.mv (.l 5)),iT 17 (.bin .add (.t 16) (cI 1)),iL 5 (.mv (.t 17))])))))) (
 .seq (.reg [
 iT 26 (.mv (.l 1)),iL 4 (.mv (.t 26))]) (
 .ret)))))
theorem mc45_eq:(Tryz.f45.body.map (compile lv45 Tryz.prog 27))=some mc45:=by kernel_rfl
def mr45:List MR:=[.t 4]
theorem mr45_eq:cRess lv45 Tryz.prog Tryz.f45.results.toList=some mr45:=by kernel_rfl
theorem call45:CallT Tryz.prog 45 27 mc45 mr45:=acall_mc (by kernel_rfl) Tryz.func45 mc45_eq Tryz.ntmps45 (by kernel_rfl) mr45_eq
/- laws.toData -/
def lv49:List Nat:=[0,1,2,3]
def mc49:MC :=
.seq (.reg [
 iL 1 (.box 4 (.l 0)),iL 2 (.alloc [.p (.s []),.p (.nl),.p (.nl),.p (.i .i64 0)])]) (
 .seq (.reg [
 iL 3 (.alloc [.p (.s []),.p (.nl),.p (.nl),.p (.i .i64 0)])]) (
 .seq (.reg [
 iT 4 (.fad 0 (.l 1)),iT 5 (.ld false 1 (.t 4)),iT 6 (.fad 0 (.l 3)),iN (.sto 1 (.t 6) (.t 5))]) (
 .seq (.reg [
 iT 7 (.fad 1 (.l 1)),iT 8 (.ld false 1 (.t 7)),iT 9 (.call 84 [.t 8]),iT 10 (.fad 1 (.l 3)),iN (.sto 1 (.t 10) (.t 9))]) (
 .seq (.reg [
 iT 11 (.fad 2 (.l 1)),iT 12 (.ld false 1 (.t 11)),iT 13 (.call 85 [.t 12]),iT 14 (.fad 2 (.l 3)),iN (.sto 1 (.t 14) (.t 13))]) (
 .seq (.reg [
 iT 15 (.fad 3 (.l 1)),iT 16 (.ld false 1 (.t 15)),iT 17 (.fad 3 (.l 3)),iN (.sto 1 (.t 17) (.t 16))]) (
 .seq (.reg [
 iT 18 (.ld true 4 (.l 3)),iN (.sto 4 (.l 2) (.t 18))]) (
 .ret)))))))
theorem mc49_eq:(Tryz.f49.body.map (compile lv49 Tryz.prog 19))=some mc49:=by kernel_rfl
def mr49:List MR:=[.cell true 4 2]
theorem mr49_eq:cRess lv49 Tryz.prog Tryz.f49.results.toList=some mr49:=by kernel_rfl
theorem call49:CallT Tryz.prog 49 19 mc49 mr49:=acall_mc (by kernel_rfl) Tryz.func49 mc49_eq Tryz.ntmps49 (by kernel_rfl) mr49_eq
/- laws.toExpS -/
def lv50:List Nat:=[0,2,3,4,11]
def mc50:MC :=
.seq (.reg [
 iL 2 (.mv (.c (.p (.nl))))]) (
 .seq (.reg [
 iT 5 (.mv (.l 0)),iT 6 (.len false (.t 5)),iT 7 (.mks 7 104 zl3_1 (.t 6) (.t 6)),iL 3 (.mv (.t 7))]) (
 .seq (.seq (.reg [
 iL 4 (.mv (cI 0))]) (
 .blk 0 (
 .loop (
 .seq (.seq (.reg [
 iT 8 (.mv (.l 4)),iT 9 (.mv (.l 0)),iT 10 (.len false (.t 9)),iL 11 (.bin .lss (.t 8) (.t 10))]) (
 .cond (.l 11) (
 .skip) (
 .exit 0))) (
 .seq (.blk 1 (
 .reg [
 iT 14 (.mv (.l 3)),iT 15 (.mv (.l 4)),iT 16 (.mv (.l 0)),iT 17 (.mv (.l 4)),iT 18 (.ixs 7 (.t 16) (.t 17)),iT 19 (.ld true 7 (.t 18)),iT 20 (.call 21 [.t 19]),iT 21 (.ixs 7 (.t 14) (.t 15)),iN (.sto 7 (.t 21) (.t 20))])) (
 .reg [
 iT 12 (.mv (.l 4)),iT 13 (.bin .add (.t 12) (cI 1)),iL 4 (.mv (.t 13))])))))) (
 .seq (.reg [
 iT 22 (.mv (.l 3)),iL 2 (.mv (.t 22))]) (
 .ret))))
theorem mc50_eq:(Tryz.f50.body.map (compile lv50 Tryz.prog 23))=some mc50:=by kernel_rfl
def mr50:List MR:=[.t 2]
theorem mr50_eq:cRess lv50 Tryz.prog Tryz.f50.results.toList=some mr50:=by kernel_rfl
theorem call50:CallT Tryz.prog 50 23 mc50 mr50:=acall_mc (by kernel_rfl) Tryz.func50 mc50_eq Tryz.ntmps50 (by kernel_rfl) mr50_eq
/- laws.toArmS -/
def lv51:List Nat:=[0,2,3,4,11]
def mc51:MC :=
.seq (.reg [
 iL 2 (.mv (.c (.p (.nl))))]) (
 .seq (.reg [
 iT 5 (.mv (.l 0)),iT 6 (.len false (.t 5)),iT 7 (.mks 12 168 zl3_2 (.t 6) (.t 6)),iL 3 (.mv (.t 7))]) (
 .seq (.seq (.reg [
 iL 4 (.mv (cI 0))]) (
 .blk 0 (
 .loop (
 .seq (.seq (.reg [
 iT 8 (.mv (.l 4)),iT 9 (.mv (.l 0)),iT 10 (.len false (.t 9)),iL 11 (.bin .lss (.t 8) (.t 10))]) (
 .cond (.l 11) (
 .skip) (
 .exit 0))) (
 .seq (.blk 1 (
 .reg [
 iT 14 (.mv (.l 3)),iT 15 (.mv (.l 4)),iT 16 (.mv (.l 0)),iT 17 (.mv (.l 4)),iT 18 (.ixs 12 (.t 16) (.t 17)),iT 19 (.ld true 12 (.t 18)),iT 20 (.call 86 [.t 19]),iT 21 (.ixs 12 (.t 14) (.t 15)),iN (.sto 12 (.t 21) (.t 20))])) (
 .reg [
 iT 12 (.mv (.l 4)),iT 13 (.bin .add (.t 12) (cI 1)),iL 4 (.mv (.t 13))])))))) (
 .seq (.reg [
 iT 22 (.mv (.l 3)),iL 2 (.mv (.t 22))]) (
 .ret))))
theorem mc51_eq:(Tryz.f51.body.map (compile lv51 Tryz.prog 23))=some mc51:=by kernel_rfl
def mr51:List MR:=[.t 2]
theorem mr51_eq:cRess lv51 Tryz.prog Tryz.f51.results.toList=some mr51:=by kernel_rfl
theorem call51:CallT Tryz.prog 51 23 mc51 mr51:=acall_mc (by kernel_rfl) Tryz.func51 mc51_eq Tryz.ntmps51 (by kernel_rfl) mr51_eq
/- laws.eqData -/
def lv57:List Nat:=[0,1,2,3,4,9,15,21,26]
def mc57:MC :=
.seq (.reg [
 iL 2 (.box 4 (.l 0)),iL 3 (.box 4 (.l 1)),iL 4 (.mv (.c (.p (.b false))))]) (
 .seq (.seq (.reg [
 iT 5 (.fad 0 (.l 2)),iT 6 (.ld false 1 (.t 5)),iT 7 (.fad 0 (.l 3)),iT 8 (.ld false 1 (.t 7)),iL 9 (.bin .neq (.t 6) (.t 8))]) (
 .cond (.l 9) (
 .seq (.reg [
 iL 4 (.mv (.c (.p (.b false))))]) (
 .ret)) (
 .skip))) (
 .seq (.seq (.reg [
 iT 10 (.fad 1 (.l 2)),iT 11 (.ld false 1 (.t 10)),iT 12 (.fad 1 (.l 3)),iT 13 (.ld false 1 (.t 12)),iT 14 (.call 89 [.t 11,.t 13]),iL 15 (.un .not (.t 14))]) (
 .cond (.l 15) (
 .seq (.reg [
 iL 4 (.mv (.c (.p (.b false))))]) (
 .ret)) (
 .skip))) (
 .seq (.seq (.reg [
 iT 16 (.fad 2 (.l 2)),iT 17 (.ld false 1 (.t 16)),iT 18 (.fad 2 (.l 3)),iT 19 (.ld false 1 (.t 18)),iT 20 (.call 90 [.t 17,.t 19]),iL 21 (.un .not (.t 20))]) (
 .cond (.l 21) (
 .seq (.reg [
 iL 4 (.mv (.c (.p (.b false))))]) (
 .ret)) (
 .skip))) (
 .seq (.seq (.reg [
 iT 22 (.fad 3 (.l 2)),iT 23 (.ld false 1 (.t 22)),iT 24 (.fad 3 (.l 3)),iT 25 (.ld false 1 (.t 24)),iL 26 (.bin .neq (.t 23) (.t 25))]) (
 .cond (.l 26) (
 .seq (.reg [
 iL 4 (.mv (.c (.p (.b false))))]) (
 .ret)) (
 .skip))) (
 .seq (.reg [
 iL 4 (.mv (.c (.p (.b true))))]) (
 .ret))))))
theorem mc57_eq:(Tryz.f57.body.map (compile lv57 Tryz.prog 27))=some mc57:=by kernel_rfl
def mr57:List MR:=[.t 4]
theorem mr57_eq:cRess lv57 Tryz.prog Tryz.f57.results.toList=some mr57:=by kernel_rfl
theorem call57:CallT Tryz.prog 57 27 mc57 mr57:=acall_mc (by kernel_rfl) Tryz.func57 mc57_eq Tryz.ntmps57 (by kernel_rfl) mr57_eq
/- laws.eqExpS -/
def lv58:List Nat:=[0,1,4,5,10,14,26]
def mc58:MC :=
.seq (.reg [
 iL 4 (.mv (.c (.p (.b false))))]) (
 .seq (.seq (.reg [
 iT 6 (.mv (.l 0)),iT 7 (.len false (.t 6)),iT 8 (.mv (.l 1)),iT 9 (.len false (.t 8)),iL 10 (.bin .neq (.t 7) (.t 9))]) (
 .cond (.l 10) (
 .seq (.reg [
 iL 4 (.mv (.c (.p (.b false))))]) (
 .ret)) (
 .skip))) (
 .seq (.seq (.reg [
 iL 5 (.mv (cI 0))]) (
 .blk 0 (
 .loop (
 .seq (.seq (.reg [
 iT 11 (.mv (.l 5)),iT 12 (.mv (.l 0)),iT 13 (.len false (.t 12)),iL 14 (.bin .lss (.t 11) (.t 13))]) (
 .cond (.l 14) (
 .skip) (
 .exit 0))) (
 .seq (.blk 1 (
 .seq (.drw [
 iT 17 (.mv (.l 0)),iT 18 (.mv (.l 5)),iT 19 (.ixs 7 (.t 17) (.t 18)),iT 20 (.ld true 7 (.t 19)),iT 21 (.mv (.l 1)),iT 22 (.mv (.l 5)),iT 23 (.ixs 7 (.t 21) (.t 22)),iT 24 (.ld true 7 (.t 23))] [
 iT 25 (.call 24 [.t 20,.t 24]),iL 26 (.un .not (.t 25))]) (
 .cond (.l 26) (
 .seq (.reg [
 iL 4 (.mv (.c (.p (.b false))))]) (
 .ret)) (
 .skip)))) (
 .reg [
 iT 15 (.mv (.l 5)),iT 16 (.bin .add (.t 15) (cI 1)),iL 5 (.mv (.t 16))])))))) (
 .seq (.reg [
 iL 4 (.mv (.c (.p (.b true))))]) (
 .ret))))
theorem mc58_eq:(Tryz.f58.body.map (compile lv58 Tryz.prog 27))=some mc58:=by kernel_rfl
def mr58:List MR:=[.t 4]
theorem mr58_eq:cRess lv58 Tryz.prog Tryz.f58.results.toList=some mr58:=by kernel_rfl
theorem call58:CallT Tryz.prog 58 27 mc58 mr58:=acall_mc (by kernel_rfl) Tryz.func58 mc58_eq Tryz.ntmps58 (by kernel_rfl) mr58_eq
/- laws.eqArmS -/
def lv59:List Nat:=[0,1,4,5,10,14,26]
def mc59:MC :=
.seq (.reg [
 iL 4 (.mv (.c (.p (.b false))))]) (
 .seq (.seq (.reg [
 iT 6 (.mv (.l 0)),iT 7 (.len false (.t 6)),iT 8 (.mv (.l 1)),iT 9 (.len false (.t 8)),iL 10 (.bin .neq (.t 7) (.t 9))]) (
 .cond (.l 10) (
 .seq (.reg [
 iL 4 (.mv (.c (.p (.b false))))]) (
 .ret)) (
 .skip))) (
 .seq (.seq (.reg [
 iL 5 (.mv (cI 0))]) (
 .blk 0 (
 .loop (
 .seq (.seq (.reg [
 iT 11 (.mv (.l 5)),iT 12 (.mv (.l 0)),iT 13 (.len false (.t 12)),iL 14 (.bin .lss (.t 11) (.t 13))]) (
 .cond (.l 14) (
 .skip) (
 .exit 0))) (
 .seq (.blk 1 (
 .seq (.drw [
 iT 17 (.mv (.l 0)),iT 18 (.mv (.l 5)),iT 19 (.ixs 12 (.t 17) (.t 18)),iT 20 (.ld true 12 (.t 19)),iT 21 (.mv (.l 1)),iT 22 (.mv (.l 5)),iT 23 (.ixs 12 (.t 21) (.t 22)),iT 24 (.ld true 12 (.t 23))] [
 iT 25 (.call 91 [.t 20,.t 24]),iL 26 (.un .not (.t 25))]) (
 .cond (.l 26) (
 .seq (.reg [
 iL 4 (.mv (.c (.p (.b false))))]) (
 .ret)) (
 .skip)))) (
 .reg [
 iT 15 (.mv (.l 5)),iT 16 (.bin .add (.t 15) (cI 1)),iL 5 (.mv (.t 16))])))))) (
 .seq (.reg [
 iL 4 (.mv (.c (.p (.b true))))]) (
 .ret))))
theorem mc59_eq:(Tryz.f59.body.map (compile lv59 Tryz.prog 27))=some mc59:=by kernel_rfl
def mr59:List MR:=[.t 4]
theorem mr59_eq:cRess lv59 Tryz.prog Tryz.f59.results.toList=some mr59:=by kernel_rfl
theorem call59:CallT Tryz.prog 59 27 mc59 mr59:=acall_mc (by kernel_rfl) Tryz.func59 mc59_eq Tryz.ntmps59 (by kernel_rfl) mr59_eq
/- laws.szStringS -/
def lv80:List Nat:=[0,1,4,5,11,15,26]
def mc80:MC :=
.seq (.reg [
 iL 4 (.mv (cI 0))]) (
 .seq (.reg [
 iT 6 (.mv (.l 1)),iT 7 (.mv (.l 0)),iT 8 (.len false (.t 7)),iT 9 (.bin .sub (.t 6) (.t 8)),iL 1 (.mv (.t 9))]) (
 .seq (.seq (.reg [
 iT 10 (.mv (.l 1)),iL 11 (.bin .lss (.t 10) (cI 0))]) (
 .cond (.l 11) (
 .seq (.reg [
 iL 4 (.mv (cI (-1)))]) (
 .ret)) (
 .skip))) (
 .seq (.seq (.reg [
 iL 5 (.mv (cI 0))]) (
 .blk 0 (
 .loop (
 .seq (.seq (.reg [
 iT 12 (.mv (.l 5)),iT 13 (.mv (.l 0)),iT 14 (.len false (.t 13)),iL 15 (.bin .lss (.t 12) (.t 14))]) (
 .cond (.l 15) (
 .skip) (
 .exit 0))) (
 .seq (.blk 1 (
 .seq (.reg [
 iT 18 (.mv (.l 1)),iT 19 (.mv (.l 0)),iT 20 (.mv (.l 5)),iT 21 (.ixs 1 (.t 19) (.t 20)),iT 22 (.ld false 1 (.t 21)),iT 23 (.len true (.t 22)),iT 24 (.bin .sub (.t 18) (.t 23)),iL 1 (.mv (.t 24))]) (
 .seq (.reg [
 iT 25 (.mv (.l 1)),iL 26 (.bin .lss (.t 25) (cI 0))]) (
 .cond (.l 26) (
 .seq (.reg [
 iL 4 (.mv (cI (-1)))]) (
 .ret)) (
 .skip))))) (
 .reg [
 iT 16 (.mv (.l 5)),iT 17 (.bin .add (.t 16) (cI 1)),iL 5 (.mv (.t 17))])))))) (
 .seq (.reg [
 iT 27 (.mv (.l 1)),iL 4 (.mv (.t 27))]) (
 .ret)))))
theorem mc80_eq:(Tryz.f80.body.map (compile lv80 Tryz.prog 28))=some mc80:=by kernel_rfl
def mr80:List MR:=[.t 4]
theorem mr80_eq:cRess lv80 Tryz.prog Tryz.f80.results.toList=some mr80:=by kernel_rfl
theorem call80:CallT Tryz.prog 80 28 mc80 mr80:=acall_mc (by kernel_rfl) Tryz.func80 mc80_eq Tryz.ntmps80 (by kernel_rfl) mr80_eq
/- laws.szCtorS -/
def lv81:List Nat:=[0,1,4,5,11,15,25]
def mc81:MC :=
.seq (.reg [
 iL 4 (.mv (cI 0))]) (
 .seq (.reg [
 iT 6 (.mv (.l 1)),iT 7 (.mv (.l 0)),iT 8 (.len false (.t 7)),iT 9 (.bin .sub (.t 6) (.t 8)),iL 1 (.mv (.t 9))]) (
 .seq (.seq (.reg [
 iT 10 (.mv (.l 1)),iL 11 (.bin .lss (.t 10) (cI 0))]) (
 .cond (.l 11) (
 .seq (.reg [
 iL 4 (.mv (cI (-1)))]) (
 .ret)) (
 .skip))) (
 .seq (.seq (.reg [
 iL 5 (.mv (cI 0))]) (
 .blk 0 (
 .loop (
 .seq (.seq (.reg [
 iT 12 (.mv (.l 5)),iT 13 (.mv (.l 0)),iT 14 (.len false (.t 13)),iL 15 (.bin .lss (.t 12) (.t 14))]) (
 .cond (.l 15) (
 .skip) (
 .exit 0))) (
 .seq (.blk 1 (
 .seq (.reg [
 iT 18 (.mv (.l 0)),iT 19 (.mv (.l 5)),iT 20 (.ixs 7 (.t 18) (.t 19)),iT 21 (.ld true 7 (.t 20)),iT 22 (.mv (.l 1)),iT 23 (.call 113 [.t 21,.t 22]),iL 1 (.mv (.t 23))]) (
 .seq (.reg [
 iT 24 (.mv (.l 1)),iL 25 (.bin .lss (.t 24) (cI 0))]) (
 .cond (.l 25) (
 .seq (.reg [
 iL 4 (.mv (cI (-1)))]) (
 .ret)) (
 .skip))))) (
 .reg [
 iT 16 (.mv (.l 5)),iT 17 (.bin .add (.t 16) (cI 1)),iL 5 (.mv (.t 17))])))))) (
 .seq (.reg [
 iT 26 (.mv (.l 1)),iL 4 (.mv (.t 26))]) (
 .ret)))))
theorem mc81_eq:(Tryz.f81.body.map (compile lv81 Tryz.prog 27))=some mc81:=by kernel_rfl
def mr81:List MR:=[.t 4]
theorem mr81_eq:cRess lv81 Tryz.prog Tryz.f81.results.toList=some mr81:=by kernel_rfl
theorem call81:CallT Tryz.prog 81 27 mc81 mr81:=acall_mc (by kernel_rfl) Tryz.func81 mc81_eq Tryz.ntmps81 (by kernel_rfl) mr81_eq
/- laws.szArm -/
def lv82:List Nat:=[0,1,2,4,10,16]
def mc82:MC :=
.seq (.reg [
 iL 2 (.box 12 (.l 0)),iL 4 (.mv (cI 0))]) (
 .seq (.reg [
 iT 5 (.fad 0 (.l 2)),iT 6 (.ld true 5 (.t 5)),iT 7 (.mv (.l 1)),iT 8 (.call 114 [.t 6,.t 7]),iL 1 (.mv (.t 8))]) (
 .seq (.seq (.reg [
 iT 9 (.mv (.l 1)),iL 10 (.bin .lss (.t 9) (cI 0))]) (
 .cond (.l 10) (
 .seq (.reg [
 iL 4 (.mv (cI (-1)))]) (
 .ret)) (
 .skip))) (
 .seq (.reg [
 iT 11 (.fad 5 (.l 2)),iT 12 (.ld true 7 (.t 11)),iT 13 (.mv (.l 1)),iT 14 (.call 18 [.t 12,.t 13]),iL 1 (.mv (.t 14))]) (
 .seq (.seq (.reg [
 iT 15 (.mv (.l 1)),iL 16 (.bin .lss (.t 15) (cI 0))]) (
 .cond (.l 16) (
 .seq (.reg [
 iL 4 (.mv (cI (-1)))]) (
 .ret)) (
 .skip))) (
 .seq (.reg [
 iT 17 (.mv (.l 1)),iL 4 (.mv (.t 17))]) (
 .ret))))))
theorem mc82_eq:(Tryz.f82.body.map (compile lv82 Tryz.prog 18))=some mc82:=by kernel_rfl
def mr82:List MR:=[.t 4]
theorem mr82_eq:cRess lv82 Tryz.prog Tryz.f82.results.toList=some mr82:=by kernel_rfl
theorem call82:CallT Tryz.prog 82 18 mc82 mr82:=acall_mc (by kernel_rfl) Tryz.func82 mc82_eq Tryz.ntmps82 (by kernel_rfl) mr82_eq
/- laws.toStringS -/
def lv84:List Nat:=[0,2,3,4,11]
def mc84:MC :=
.seq (.reg [
 iL 2 (.mv (.c (.p (.nl))))]) (
 .seq (.reg [
 iT 5 (.mv (.l 0)),iT 6 (.len false (.t 5)),iT 7 (.mks 1 16 [.p (.s [])] (.t 6) (.t 6)),iL 3 (.mv (.t 7))]) (
 .seq (.seq (.reg [
 iL 4 (.mv (cI 0))]) (
 .blk 0 (
 .loop (
 .seq (.seq (.reg [
 iT 8 (.mv (.l 4)),iT 9 (.mv (.l 0)),iT 10 (.len false (.t 9)),iL 11 (.bin .lss (.t 8) (.t 10))]) (
 .cond (.l 11) (
 .skip) (
 .exit 0))) (
 .seq (.blk 1 (
 .reg [
 iT 14 (.mv (.l 3)),iT 15 (.mv (.l 4)),iT 16 (.mv (.l 0)),iT 17 (.mv (.l 4)),iT 18 (.ixs 1 (.t 16) (.t 17)),iT 19 (.ld false 1 (.t 18)),iT 20 (.ixs 1 (.t 14) (.t 15)),iN (.sto 1 (.t 20) (.t 19))])) (
 .reg [
 iT 12 (.mv (.l 4)),iT 13 (.bin .add (.t 12) (cI 1)),iL 4 (.mv (.t 13))])))))) (
 .seq (.reg [
 iT 21 (.mv (.l 3)),iL 2 (.mv (.t 21))]) (
 .ret))))
theorem mc84_eq:(Tryz.f84.body.map (compile lv84 Tryz.prog 22))=some mc84:=by kernel_rfl
def mr84:List MR:=[.t 2]
theorem mr84_eq:cRess lv84 Tryz.prog Tryz.f84.results.toList=some mr84:=by kernel_rfl
theorem call84:CallT Tryz.prog 84 22 mc84 mr84:=acall_mc (by kernel_rfl) Tryz.func84 mc84_eq Tryz.ntmps84 (by kernel_rfl) mr84_eq
/- laws.toCtorS -/
def lv85:List Nat:=[0,2,3,4,11]
def mc85:MC :=
.seq (.reg [
 iL 2 (.mv (.c (.p (.nl))))]) (
 .seq (.reg [
 iT 5 (.mv (.l 0)),iT 6 (.len false (.t 5)),iT 7 (.mks 7 88 zl3_3 (.t 6) (.t 6)),iL 3 (.mv (.t 7))]) (
 .seq (.seq (.reg [
 iL 4 (.mv (cI 0))]) (
 .blk 0 (
 .loop (
 .seq (.seq (.reg [
 iT 8 (.mv (.l 4)),iT 9 (.mv (.l 0)),iT 10 (.len false (.t 9)),iL 11 (.bin .lss (.t 8) (.t 10))]) (
 .cond (.l 11) (
 .skip) (
 .exit 0))) (
 .seq (.blk 1 (
 .reg [
 iT 14 (.mv (.l 3)),iT 15 (.mv (.l 4)),iT 16 (.mv (.l 0)),iT 17 (.mv (.l 4)),iT 18 (.ixs 7 (.t 16) (.t 17)),iT 19 (.ld true 7 (.t 18)),iT 20 (.call 115 [.t 19]),iT 21 (.ixs 7 (.t 14) (.t 15)),iN (.sto 7 (.t 21) (.t 20))])) (
 .reg [
 iT 12 (.mv (.l 4)),iT 13 (.bin .add (.t 12) (cI 1)),iL 4 (.mv (.t 13))])))))) (
 .seq (.reg [
 iT 22 (.mv (.l 3)),iL 2 (.mv (.t 22))]) (
 .ret))))
theorem mc85_eq:(Tryz.f85.body.map (compile lv85 Tryz.prog 23))=some mc85:=by kernel_rfl
def mr85:List MR:=[.t 2]
theorem mr85_eq:cRess lv85 Tryz.prog Tryz.f85.results.toList=some mr85:=by kernel_rfl
theorem call85:CallT Tryz.prog 85 23 mc85 mr85:=acall_mc (by kernel_rfl) Tryz.func85 mc85_eq Tryz.ntmps85 (by kernel_rfl) mr85_eq
/- laws.toArm -/
def lv86:List Nat:=[0,1,2,3]
def mc86:MC :=
.seq (.reg [
 iL 1 (.box 12 (.l 0)),iL 2 (.alloc zl3_2)]) (
 .seq (.reg [
 iL 3 (.alloc zl3_2)]) (
 .seq (.reg [
 iT 4 (.fad 0 (.l 1)),iT 5 (.ld true 5 (.t 4)),iT 6 (.call 116 [.t 5]),iT 7 (.fad 0 (.l 3)),iN (.sto 5 (.t 7) (.t 6))]) (
 .seq (.reg [
 iT 8 (.fad 5 (.l 1)),iT 9 (.ld true 7 (.t 8)),iT 10 (.call 21 [.t 9]),iT 11 (.fad 5 (.l 3)),iN (.sto 7 (.t 11) (.t 10))]) (
 .seq (.reg [
 iT 12 (.ld true 12 (.l 3)),iN (.sto 12 (.l 2) (.t 12))]) (
 .ret)))))
theorem mc86_eq:(Tryz.f86.body.map (compile lv86 Tryz.prog 13))=some mc86:=by kernel_rfl
def mr86:List MR:=[.cell true 12 2]
theorem mr86_eq:cRess lv86 Tryz.prog Tryz.f86.results.toList=some mr86:=by kernel_rfl
theorem call86:CallT Tryz.prog 86 13 mc86 mr86:=acall_mc (by kernel_rfl) Tryz.func86 mc86_eq Tryz.ntmps86 (by kernel_rfl) mr86_eq
/- laws.eqStringS -/
def lv89:List Nat:=[0,1,4,5,10,14,25]
def mc89:MC :=
.seq (.reg [
 iL 4 (.mv (.c (.p (.b false))))]) (
 .seq (.seq (.reg [
 iT 6 (.mv (.l 0)),iT 7 (.len false (.t 6)),iT 8 (.mv (.l 1)),iT 9 (.len false (.t 8)),iL 10 (.bin .neq (.t 7) (.t 9))]) (
 .cond (.l 10) (
 .seq (.reg [
 iL 4 (.mv (.c (.p (.b false))))]) (
 .ret)) (
 .skip))) (
 .seq (.seq (.reg [
 iL 5 (.mv (cI 0))]) (
 .blk 0 (
 .loop (
 .seq (.seq (.reg [
 iT 11 (.mv (.l 5)),iT 12 (.mv (.l 0)),iT 13 (.len false (.t 12)),iL 14 (.bin .lss (.t 11) (.t 13))]) (
 .cond (.l 14) (
 .skip) (
 .exit 0))) (
 .seq (.blk 1 (
 .seq (.drw [
 iT 17 (.mv (.l 0)),iT 18 (.mv (.l 5)),iT 19 (.ixs 1 (.t 17) (.t 18)),iT 20 (.ld false 1 (.t 19)),iT 21 (.mv (.l 1)),iT 22 (.mv (.l 5)),iT 23 (.ixs 1 (.t 21) (.t 22)),iT 24 (.ld false 1 (.t 23))] [
 iL 25 (.bin .neq (.t 20) (.t 24))]) (
 .cond (.l 25) (
 .seq (.reg [
 iL 4 (.mv (.c (.p (.b false))))]) (
 .ret)) (
 .skip)))) (
 .reg [
 iT 15 (.mv (.l 5)),iT 16 (.bin .add (.t 15) (cI 1)),iL 5 (.mv (.t 16))])))))) (
 .seq (.reg [
 iL 4 (.mv (.c (.p (.b true))))]) (
 .ret))))
theorem mc89_eq:(Tryz.f89.body.map (compile lv89 Tryz.prog 26))=some mc89:=by kernel_rfl
def mr89:List MR:=[.t 4]
theorem mr89_eq:cRess lv89 Tryz.prog Tryz.f89.results.toList=some mr89:=by kernel_rfl
theorem call89:CallT Tryz.prog 89 26 mc89 mr89:=acall_mc (by kernel_rfl) Tryz.func89 mc89_eq Tryz.ntmps89 (by kernel_rfl) mr89_eq
/- laws.eqCtorS -/
def lv90:List Nat:=[0,1,4,5,10,14,26]
def mc90:MC :=
.seq (.reg [
 iL 4 (.mv (.c (.p (.b false))))]) (
 .seq (.seq (.reg [
 iT 6 (.mv (.l 0)),iT 7 (.len false (.t 6)),iT 8 (.mv (.l 1)),iT 9 (.len false (.t 8)),iL 10 (.bin .neq (.t 7) (.t 9))]) (
 .cond (.l 10) (
 .seq (.reg [
 iL 4 (.mv (.c (.p (.b false))))]) (
 .ret)) (
 .skip))) (
 .seq (.seq (.reg [
 iL 5 (.mv (cI 0))]) (
 .blk 0 (
 .loop (
 .seq (.seq (.reg [
 iT 11 (.mv (.l 5)),iT 12 (.mv (.l 0)),iT 13 (.len false (.t 12)),iL 14 (.bin .lss (.t 11) (.t 13))]) (
 .cond (.l 14) (
 .skip) (
 .exit 0))) (
 .seq (.blk 1 (
 .seq (.drw [
 iT 17 (.mv (.l 0)),iT 18 (.mv (.l 5)),iT 19 (.ixs 7 (.t 17) (.t 18)),iT 20 (.ld true 7 (.t 19)),iT 21 (.mv (.l 1)),iT 22 (.mv (.l 5)),iT 23 (.ixs 7 (.t 21) (.t 22)),iT 24 (.ld true 7 (.t 23))] [
 iT 25 (.call 119 [.t 20,.t 24]),iL 26 (.un .not (.t 25))]) (
 .cond (.l 26) (
 .seq (.reg [
 iL 4 (.mv (.c (.p (.b false))))]) (
 .ret)) (
 .skip)))) (
 .reg [
 iT 15 (.mv (.l 5)),iT 16 (.bin .add (.t 15) (cI 1)),iL 5 (.mv (.t 16))])))))) (
 .seq (.reg [
 iL 4 (.mv (.c (.p (.b true))))]) (
 .ret))))
theorem mc90_eq:(Tryz.f90.body.map (compile lv90 Tryz.prog 27))=some mc90:=by kernel_rfl
def mr90:List MR:=[.t 4]
theorem mr90_eq:cRess lv90 Tryz.prog Tryz.f90.results.toList=some mr90:=by kernel_rfl
theorem call90:CallT Tryz.prog 90 27 mc90 mr90:=acall_mc (by kernel_rfl) Tryz.func90 mc90_eq Tryz.ntmps90 (by kernel_rfl) mr90_eq
/- laws.eqArm -/
def lv91:List Nat:=[0,1,2,3,4,10,16]
def mc91:MC :=
.seq (.reg [
 iL 2 (.box 12 (.l 0)),iL 3 (.box 12 (.l 1)),iL 4 (.mv (.c (.p (.b false))))]) (
 .seq (.seq (.reg [
 iT 5 (.fad 0 (.l 2)),iT 6 (.ld true 5 (.t 5)),iT 7 (.fad 0 (.l 3)),iT 8 (.ld true 5 (.t 7)),iT 9 (.call 120 [.t 6,.t 8]),iL 10 (.un .not (.t 9))]) (
 .cond (.l 10) (
 .seq (.reg [
 iL 4 (.mv (.c (.p (.b false))))]) (
 .ret)) (
 .skip))) (
 .seq (.seq (.reg [
 iT 11 (.fad 5 (.l 2)),iT 12 (.ld true 7 (.t 11)),iT 13 (.fad 5 (.l 3)),iT 14 (.ld true 7 (.t 13)),iT 15 (.call 24 [.t 12,.t 14]),iL 16 (.un .not (.t 15))]) (
 .cond (.l 16) (
 .seq (.reg [
 iL 4 (.mv (.c (.p (.b false))))]) (
 .ret)) (
 .skip))) (
 .seq (.reg [
 iL 4 (.mv (.c (.p (.b true))))]) (
 .ret))))
theorem mc91_eq:(Tryz.f91.body.map (compile lv91 Tryz.prog 17))=some mc91:=by kernel_rfl
def mr91:List MR:=[.t 4]
theorem mr91_eq:cRess lv91 Tryz.prog Tryz.f91.results.toList=some mr91:=by kernel_rfl
theorem call91:CallT Tryz.prog 91 17 mc91 mr91:=acall_mc (by kernel_rfl) Tryz.func91 mc91_eq Tryz.ntmps91 (by kernel_rfl) mr91_eq
/- laws.szCtor -/
def lv113:List Nat:=[0,1,2,4,11,17]
def mc113:MC :=
.seq (.reg [
 iL 2 (.box 7 (.l 0)),iL 4 (.mv (cI 0))]) (
 .seq (.reg [
 iT 5 (.mv (.l 1)),iT 6 (.fad 0 (.l 2)),iT 7 (.ld false 1 (.t 6)),iT 8 (.len true (.t 7)),iT 9 (.bin .sub (.t 5) (.t 8)),iL 1 (.mv (.t 9))]) (
 .seq (.seq (.reg [
 iT 10 (.mv (.l 1)),iL 11 (.bin .lss (.t 10) (cI 0))]) (
 .cond (.l 11) (
 .seq (.reg [
 iL 4 (.mv (cI (-1)))]) (
 .ret)) (
 .skip))) (
 .seq (.reg [
 iT 12 (.fad 2 (.l 2)),iT 13 (.ld true 4 (.t 12)),iT 14 (.mv (.l 1)),iT 15 (.call 140 [.t 13,.t 14]),iL 1 (.mv (.t 15))]) (
 .seq (.seq (.reg [
 iT 16 (.mv (.l 1)),iL 17 (.bin .lss (.t 16) (cI 0))]) (
 .cond (.l 17) (
 .seq (.reg [
 iL 4 (.mv (cI (-1)))]) (
 .ret)) (
 .skip))) (
 .seq (.reg [
 iT 18 (.mv (.l 1)),iL 4 (.mv (.t 18))]) (
 .ret))))))
theorem mc113_eq:(Tryz.f113.body.map (compile lv113 Tryz.prog 19))=some mc113:=by kernel_rfl
def mr113:List MR:=[.t 4]
theorem mr113_eq:cRess lv113 Tryz.prog Tryz.f113.results.toList=some mr113:=by kernel_rfl
theorem call113:CallT Tryz.prog 113 19 mc113 mr113:=acall_mc (by kernel_rfl) Tryz.func113 mc113_eq Tryz.ntmps113 (by kernel_rfl) mr113_eq
/- laws.szPat -/
def lv114:List Nat:=[0,1,2,4,11,17]
def mc114:MC :=
.seq (.reg [
 iL 2 (.box 5 (.l 0)),iL 4 (.mv (cI 0))]) (
 .seq (.reg [
 iT 5 (.mv (.l 1)),iT 6 (.fad 1 (.l 2)),iT 7 (.ld false 1 (.t 6)),iT 8 (.len true (.t 7)),iT 9 (.bin .sub (.t 5) (.t 8)),iL 1 (.mv (.t 9))]) (
 .seq (.seq (.reg [
 iT 10 (.mv (.l 1)),iL 11 (.bin .lss (.t 10) (cI 0))]) (
 .cond (.l 11) (
 .seq (.reg [
 iL 4 (.mv (cI (-1)))]) (
 .ret)) (
 .skip))) (
 .seq (.reg [
 iT 12 (.fad 4 (.l 2)),iT 13 (.ld false 1 (.t 12)),iT 14 (.mv (.l 1)),iT 15 (.call 141 [.t 13,.t 14]),iL 1 (.mv (.t 15))]) (
 .seq (.seq (.reg [
 iT 16 (.mv (.l 1)),iL 17 (.bin .lss (.t 16) (cI 0))]) (
 .cond (.l 17) (
 .seq (.reg [
 iL 4 (.mv (cI (-1)))]) (
 .ret)) (
 .skip))) (
 .seq (.reg [
 iT 18 (.mv (.l 1)),iL 4 (.mv (.t 18))]) (
 .ret))))))
theorem mc114_eq:(Tryz.f114.body.map (compile lv114 Tryz.prog 19))=some mc114:=by kernel_rfl
def mr114:List MR:=[.t 4]
theorem mr114_eq:cRess lv114 Tryz.prog Tryz.f114.results.toList=some mr114:=by kernel_rfl
theorem call114:CallT Tryz.prog 114 19 mc114 mr114:=acall_mc (by kernel_rfl) Tryz.func114 mc114_eq Tryz.ntmps114 (by kernel_rfl) mr114_eq
/- laws.toCtor -/
def lv115:List Nat:=[0,1,2,3]
def mc115:MC :=
.seq (.reg [
 iL 1 (.box 7 (.l 0)),iL 2 (.alloc zl3_3)]) (
 .seq (.reg [
 iL 3 (.alloc zl3_3)]) (
 .seq (.reg [
 iT 4 (.fad 0 (.l 1)),iT 5 (.ld false 1 (.t 4)),iT 6 (.fad 0 (.l 3)),iN (.sto 1 (.t 6) (.t 5))]) (
 .seq (.reg [
 iT 7 (.fad 1 (.l 1)),iT 8 (.ld false 1 (.t 7)),iT 9 (.fad 1 (.l 3)),iN (.sto 1 (.t 9) (.t 8))]) (
 .seq (.reg [
 iT 10 (.fad 2 (.l 1)),iT 11 (.ld true 4 (.t 10)),iT 12 (.call 142 [.t 11]),iT 13 (.fad 2 (.l 3)),iN (.sto 4 (.t 13) (.t 12))]) (
 .seq (.reg [
 iT 14 (.fad 6 (.l 1)),iT 15 (.ld false 1 (.t 14)),iT 16 (.fad 6 (.l 3)),iN (.sto 1 (.t 16) (.t 15))]) (
 .seq (.reg [
 iT 17 (.ld true 7 (.l 3)),iN (.sto 7 (.l 2) (.t 17))]) (
 .ret)))))))
theorem mc115_eq:(Tryz.f115.body.map (compile lv115 Tryz.prog 18))=some mc115:=by kernel_rfl
def mr115:List MR:=[.cell true 7 2]
theorem mr115_eq:cRess lv115 Tryz.prog Tryz.f115.results.toList=some mr115:=by kernel_rfl
theorem call115:CallT Tryz.prog 115 18 mc115 mr115:=acall_mc (by kernel_rfl) Tryz.func115 mc115_eq Tryz.ntmps115 (by kernel_rfl) mr115_eq
/- laws.toPat -/
def lv116:List Nat:=[0,1,2,3]
def mc116:MC :=
.seq (.reg [
 iL 1 (.box 5 (.l 0)),iL 2 (.alloc [.p (.i .i64 0),.p (.s []),.p (.i .i64 0),.p (.i .i64 0),.p (.nl)])]) (
 .seq (.reg [
 iL 3 (.alloc [.p (.i .i64 0),.p (.s []),.p (.i .i64 0),.p (.i .i64 0),.p (.nl)])]) (
 .seq (.reg [
 iT 4 (.fad 0 (.l 1)),iT 5 (.ld false 1 (.t 4)),iT 6 (.fad 0 (.l 3)),iN (.sto 1 (.t 6) (.t 5))]) (
 .seq (.reg [
 iT 7 (.fad 1 (.l 1)),iT 8 (.ld false 1 (.t 7)),iT 9 (.fad 1 (.l 3)),iN (.sto 1 (.t 9) (.t 8))]) (
 .seq (.reg [
 iT 10 (.fad 2 (.l 1)),iT 11 (.ld false 1 (.t 10)),iT 12 (.fad 2 (.l 3)),iN (.sto 1 (.t 12) (.t 11))]) (
 .seq (.reg [
 iT 13 (.fad 3 (.l 1)),iT 14 (.ld false 1 (.t 13)),iT 15 (.fad 3 (.l 3)),iN (.sto 1 (.t 15) (.t 14))]) (
 .seq (.reg [
 iT 16 (.fad 4 (.l 1)),iT 17 (.ld false 1 (.t 16)),iT 18 (.call 143 [.t 17]),iT 19 (.fad 4 (.l 3)),iN (.sto 1 (.t 19) (.t 18))]) (
 .seq (.reg [
 iT 20 (.ld true 5 (.l 3)),iN (.sto 5 (.l 2) (.t 20))]) (
 .ret))))))))
theorem mc116_eq:(Tryz.f116.body.map (compile lv116 Tryz.prog 21))=some mc116:=by kernel_rfl
def mr116:List MR:=[.cell true 5 2]
theorem mr116_eq:cRess lv116 Tryz.prog Tryz.f116.results.toList=some mr116:=by kernel_rfl
theorem call116:CallT Tryz.prog 116 21 mc116 mr116:=acall_mc (by kernel_rfl) Tryz.func116 mc116_eq Tryz.ntmps116 (by kernel_rfl) mr116_eq
/- laws.eqCtor -/
def lv119:List Nat:=[0,1,2,3,4,9,14,20,25]
def mc119:MC :=
.seq (.reg [
 iL 2 (.box 7 (.l 0)),iL 3 (.box 7 (.l 1)),iL 4 (.mv (.c (.p (.b false))))]) (
 .seq (.seq (.reg [
 iT 5 (.fad 0 (.l 2)),iT 6 (.ld false 1 (.t 5)),iT 7 (.fad 0 (.l 3)),iT 8 (.ld false 1 (.t 7)),iL 9 (.bin .neq (.t 6) (.t 8))]) (
 .cond (.l 9) (
 .seq (.reg [
 iL 4 (.mv (.c (.p (.b false))))]) (
 .ret)) (
 .skip))) (
 .seq (.seq (.reg [
 iT 10 (.fad 1 (.l 2)),iT 11 (.ld false 1 (.t 10)),iT 12 (.fad 1 (.l 3)),iT 13 (.ld false 1 (.t 12)),iL 14 (.beq true (.t 11) (.t 13))]) (
 .cond (.l 14) (
 .seq (.reg [
 iL 4 (.mv (.c (.p (.b false))))]) (
 .ret)) (
 .skip))) (
 .seq (.seq (.reg [
 iT 15 (.fad 2 (.l 2)),iT 16 (.ld true 4 (.t 15)),iT 17 (.fad 2 (.l 3)),iT 18 (.ld true 4 (.t 17)),iT 19 (.call 144 [.t 16,.t 18]),iL 20 (.un .not (.t 19))]) (
 .cond (.l 20) (
 .seq (.reg [
 iL 4 (.mv (.c (.p (.b false))))]) (
 .ret)) (
 .skip))) (
 .seq (.seq (.reg [
 iT 21 (.fad 6 (.l 2)),iT 22 (.ld false 1 (.t 21)),iT 23 (.fad 6 (.l 3)),iT 24 (.ld false 1 (.t 23)),iL 25 (.bin .neq (.t 22) (.t 24))]) (
 .cond (.l 25) (
 .seq (.reg [
 iL 4 (.mv (.c (.p (.b false))))]) (
 .ret)) (
 .skip))) (
 .seq (.reg [
 iL 4 (.mv (.c (.p (.b true))))]) (
 .ret))))))
theorem mc119_eq:(Tryz.f119.body.map (compile lv119 Tryz.prog 26))=some mc119:=by kernel_rfl
def mr119:List MR:=[.t 4]
theorem mr119_eq:cRess lv119 Tryz.prog Tryz.f119.results.toList=some mr119:=by kernel_rfl
theorem call119:CallT Tryz.prog 119 26 mc119 mr119:=acall_mc (by kernel_rfl) Tryz.func119 mc119_eq Tryz.ntmps119 (by kernel_rfl) mr119_eq
/- laws.eqPat -/
def lv120:List Nat:=[0,1,2,3,4,9,14,19,24,30]
def mc120:MC :=
.seq (.reg [
 iL 2 (.box 5 (.l 0)),iL 3 (.box 5 (.l 1)),iL 4 (.mv (.c (.p (.b false))))]) (
 .seq (.seq (.reg [
 iT 5 (.fad 0 (.l 2)),iT 6 (.ld false 1 (.t 5)),iT 7 (.fad 0 (.l 3)),iT 8 (.ld false 1 (.t 7)),iL 9 (.bin .neq (.t 6) (.t 8))]) (
 .cond (.l 9) (
 .seq (.reg [
 iL 4 (.mv (.c (.p (.b false))))]) (
 .ret)) (
 .skip))) (
 .seq (.seq (.reg [
 iT 10 (.fad 1 (.l 2)),iT 11 (.ld false 1 (.t 10)),iT 12 (.fad 1 (.l 3)),iT 13 (.ld false 1 (.t 12)),iL 14 (.bin .neq (.t 11) (.t 13))]) (
 .cond (.l 14) (
 .seq (.reg [
 iL 4 (.mv (.c (.p (.b false))))]) (
 .ret)) (
 .skip))) (
 .seq (.seq (.reg [
 iT 15 (.fad 2 (.l 2)),iT 16 (.ld false 1 (.t 15)),iT 17 (.fad 2 (.l 3)),iT 18 (.ld false 1 (.t 17)),iL 19 (.bin .neq (.t 16) (.t 18))]) (
 .cond (.l 19) (
 .seq (.reg [
 iL 4 (.mv (.c (.p (.b false))))]) (
 .ret)) (
 .skip))) (
 .seq (.seq (.reg [
 iT 20 (.fad 3 (.l 2)),iT 21 (.ld false 1 (.t 20)),iT 22 (.fad 3 (.l 3)),iT 23 (.ld false 1 (.t 22)),iL 24 (.bin .neq (.t 21) (.t 23))]) (
 .cond (.l 24) (
 .seq (.reg [
 iL 4 (.mv (.c (.p (.b false))))]) (
 .ret)) (
 .skip))) (
 .seq (.seq (.reg [
 iT 25 (.fad 4 (.l 2)),iT 26 (.ld false 1 (.t 25)),iT 27 (.fad 4 (.l 3)),iT 28 (.ld false 1 (.t 27)),iT 29 (.call 145 [.t 26,.t 28]),iL 30 (.un .not (.t 29))]) (
 .cond (.l 30) (
 .seq (.reg [
 iL 4 (.mv (.c (.p (.b false))))]) (
 .ret)) (
 .skip))) (
 .seq (.reg [
 iL 4 (.mv (.c (.p (.b true))))]) (
 .ret)))))))
theorem mc120_eq:(Tryz.f120.body.map (compile lv120 Tryz.prog 31))=some mc120:=by kernel_rfl
def mr120:List MR:=[.t 4]
theorem mr120_eq:cRess lv120 Tryz.prog Tryz.f120.results.toList=some mr120:=by kernel_rfl
theorem call120:CallT Tryz.prog 120 31 mc120 mr120:=acall_mc (by kernel_rfl) Tryz.func120 mc120_eq Tryz.ntmps120 (by kernel_rfl) mr120_eq
/- laws.szTypeExp -/
def lv140:List Nat:=[0,1,2,4,11,17]
def mc140:MC :=
.seq (.reg [
 iL 2 (.box 4 (.l 0)),iL 4 (.mv (cI 0))]) (
 .seq (.reg [
 iT 5 (.mv (.l 1)),iT 6 (.fad 1 (.l 2)),iT 7 (.ld false 1 (.t 6)),iT 8 (.len true (.t 7)),iT 9 (.bin .sub (.t 5) (.t 8)),iL 1 (.mv (.t 9))]) (
 .seq (.seq (.reg [
 iT 10 (.mv (.l 1)),iL 11 (.bin .lss (.t 10) (cI 0))]) (
 .cond (.l 11) (
 .seq (.reg [
 iL 4 (.mv (cI (-1)))]) (
 .ret)) (
 .skip))) (
 .seq (.reg [
 iT 12 (.fad 3 (.l 2)),iT 13 (.ld false 1 (.t 12)),iT 14 (.mv (.l 1)),iT 15 (.call 150 [.t 13,.t 14]),iL 1 (.mv (.t 15))]) (
 .seq (.seq (.reg [
 iT 16 (.mv (.l 1)),iL 17 (.bin .lss (.t 16) (cI 0))]) (
 .cond (.l 17) (
 .seq (.reg [
 iL 4 (.mv (cI (-1)))]) (
 .ret)) (
 .skip))) (
 .seq (.reg [
 iT 18 (.mv (.l 1)),iL 4 (.mv (.t 18))]) (
 .ret))))))
theorem mc140_eq:(Tryz.f140.body.map (compile lv140 Tryz.prog 19))=some mc140:=by kernel_rfl
def mr140:List MR:=[.t 4]
theorem mr140_eq:cRess lv140 Tryz.prog Tryz.f140.results.toList=some mr140:=by kernel_rfl
theorem call140:CallT Tryz.prog 140 19 mc140 mr140:=acall_mc (by kernel_rfl) Tryz.func140 mc140_eq Tryz.ntmps140 (by kernel_rfl) mr140_eq
/- laws.szPatS -/
def lv141:List Nat:=[0,1,4,5,11,15,25]
def mc141:MC :=
.seq (.reg [
 iL 4 (.mv (cI 0))]) (
 .seq (.reg [
 iT 6 (.mv (.l 1)),iT 7 (.mv (.l 0)),iT 8 (.len false (.t 7)),iT 9 (.bin .sub (.t 6) (.t 8)),iL 1 (.mv (.t 9))]) (
 .seq (.seq (.reg [
 iT 10 (.mv (.l 1)),iL 11 (.bin .lss (.t 10) (cI 0))]) (
 .cond (.l 11) (
 .seq (.reg [
 iL 4 (.mv (cI (-1)))]) (
 .ret)) (
 .skip))) (
 .seq (.seq (.reg [
 iL 5 (.mv (cI 0))]) (
 .blk 0 (
 .loop (
 .seq (.seq (.reg [
 iT 12 (.mv (.l 5)),iT 13 (.mv (.l 0)),iT 14 (.len false (.t 13)),iL 15 (.bin .lss (.t 12) (.t 14))]) (
 .cond (.l 15) (
 .skip) (
 .exit 0))) (
 .seq (.blk 1 (
 .seq (.reg [
 iT 18 (.mv (.l 0)),iT 19 (.mv (.l 5)),iT 20 (.ixs 5 (.t 18) (.t 19)),iT 21 (.ld true 5 (.t 20)),iT 22 (.mv (.l 1)),iT 23 (.call 114 [.t 21,.t 22]),iL 1 (.mv (.t 23))]) (
 .seq (.reg [
 iT 24 (.mv (.l 1)),iL 25 (.bin .lss (.t 24) (cI 0))]) (
 .cond (.l 25) (
 .seq (.reg [
 iL 4 (.mv (cI (-1)))]) (
 .ret)) (
 .skip))))) (
 .reg [
 iT 16 (.mv (.l 5)),iT 17 (.bin .add (.t 16) (cI 1)),iL 5 (.mv (.t 17))])))))) (
 .seq (.reg [
 iT 26 (.mv (.l 1)),iL 4 (.mv (.t 26))]) (
 .ret)))))
theorem mc141_eq:(Tryz.f141.body.map (compile lv141 Tryz.prog 27))=some mc141:=by kernel_rfl
def mr141:List MR:=[.t 4]
theorem mr141_eq:cRess lv141 Tryz.prog Tryz.f141.results.toList=some mr141:=by kernel_rfl
theorem call141:CallT Tryz.prog 141 27 mc141 mr141:=acall_mc (by kernel_rfl) Tryz.func141 mc141_eq Tryz.ntmps141 (by kernel_rfl) mr141_eq
/- laws.toTypeExp -/
def lv142:List Nat:=[0,1,2,3]
def mc142:MC :=
.seq (.reg [
 iL 1 (.box 4 (.l 0)),iL 2 (.alloc [.p (.i .i64 0),.p (.s []),.p (.i .i64 0),.p (.nl)])]) (
 .seq (.reg [
 iL 3 (.alloc [.p (.i .i64 0),.p (.s []),.p (.i .i64 0),.p (.nl)])]) (
 .seq (.reg [
 iT 4 (.fad 0 (.l 1)),iT 5 (.ld false 1 (.t 4)),iT 6 (.fad 0 (.l 3)),iN (.sto 1 (.t 6) (.t 5))]) (
 .seq (.reg [
 iT 7 (.fad 1 (.l 1)),iT 8 (.ld false 1 (.t 7)),iT 9 (.fad 1 (.l 3)),iN (.sto 1 (.t 9) (.t 8))]) (
 .seq (.reg [
 iT 10 (.fad 2 (.l 1)),iT 11 (.ld false 1 (.t 10)),iT 12 (.fad 2 (.l 3)),iN (.sto 1 (.t 12) (.t 11))]) (
 .seq (.reg [
 iT 13 (.fad 3 (.l 1)),iT 14 (.ld false 1 (.t 13)),iT 15 (.call 151 [.t 14]),iT 16 (.fad 3 (.l 3)),iN (.sto 1 (.t 16) (.t 15))]) (
 .seq (.reg [
 iT 17 (.ld true 4 (.l 3)),iN (.sto 4 (.l 2) (.t 17))]) (
 .ret)))))))
theorem mc142_eq:(Tryz.f142.body.map (compile lv142 Tryz.prog 18))=some mc142:=by kernel_rfl
def mr142:List MR:=[.cell true 4 2]
theorem mr142_eq:cRess lv142 Tryz.prog Tryz.f142.results.toList=some mr142:=by kernel_rfl
theorem call142:CallT Tryz.prog 142 18 mc142 mr142:=acall_mc (by kernel_rfl) Tryz.func142 mc142_eq Tryz.ntmps142 (by kernel_rfl) mr142_eq
/- laws.toPatS -/
def lv143:List Nat:=[0,2,3,4,11]
def mc143:MC :=
.seq (.reg [
 iL 2 (.mv (.c (.p (.nl))))]) (
 .seq (.reg [
 iT 5 (.mv (.l 0)),iT 6 (.len false (.t 5)),iT 7 (.mks 5 64 [.p (.i .i64 0),.p (.s []),.p (.i .i64 0),.p (.i .i64 0),.p (.nl)] (.t 6) (.t 6)),iL 3 (.mv (.t 7))]) (
 .seq (.seq (.reg [
 iL 4 (.mv (cI 0))]) (
 .blk 0 (
 .loop (
 .seq (.seq (.reg [
 iT 8 (.mv (.l 4)),iT 9 (.mv (.l 0)),iT 10 (.len false (.t 9)),iL 11 (.bin .lss (.t 8) (.t 10))]) (
 .cond (.l 11) (
 .skip) (
 .exit 0))) (
 .seq (.blk 1 (
 .reg [
 iT 14 (.mv (.l 3)),iT 15 (.mv (.l 4)),iT 16 (.mv (.l 0)),iT 17 (.mv (.l 4)),iT 18 (.ixs 5 (.t 16) (.t 17)),iT 19 (.ld true 5 (.t 18)),iT 20 (.call 116 [.t 19]),iT 21 (.ixs 5 (.t 14) (.t 15)),iN (.sto 5 (.t 21) (.t 20))])) (
 .reg [
 iT 12 (.mv (.l 4)),iT 13 (.bin .add (.t 12) (cI 1)),iL 4 (.mv (.t 13))])))))) (
 .seq (.reg [
 iT 22 (.mv (.l 3)),iL 2 (.mv (.t 22))]) (
 .ret))))
theorem mc143_eq:(Tryz.f143.body.map (compile lv143 Tryz.prog 23))=some mc143:=by kernel_rfl
def mr143:List MR:=[.t 2]
theorem mr143_eq:cRess lv143 Tryz.prog Tryz.f143.results.toList=some mr143:=by kernel_rfl
theorem call143:CallT Tryz.prog 143 23 mc143 mr143:=acall_mc (by kernel_rfl) Tryz.func143 mc143_eq Tryz.ntmps143 (by kernel_rfl) mr143_eq
/- laws.eqTypeExp -/
def lv144:List Nat:=[0,1,2,3,4,9,14,19,25]
def mc144:MC :=
.seq (.reg [
 iL 2 (.box 4 (.l 0)),iL 3 (.box 4 (.l 1)),iL 4 (.mv (.c (.p (.b false))))]) (
 .seq (.seq (.reg [
 iT 5 (.fad 0 (.l 2)),iT 6 (.ld false 1 (.t 5)),iT 7 (.fad 0 (.l 3)),iT 8 (.ld false 1 (.t 7)),iL 9 (.bin .neq (.t 6) (.t 8))]) (
 .cond (.l 9) (
 .seq (.reg [
 iL 4 (.mv (.c (.p (.b false))))]) (
 .ret)) (
 .skip))) (
 .seq (.seq (.reg [
 iT 10 (.fad 1 (.l 2)),iT 11 (.ld false 1 (.t 10)),iT 12 (.fad 1 (.l 3)),iT 13 (.ld false 1 (.t 12)),iL 14 (.bin .neq (.t 11) (.t 13))]) (
 .cond (.l 14) (
 .seq (.reg [
 iL 4 (.mv (.c (.p (.b false))))]) (
 .ret)) (
 .skip))) (
 .seq (.seq (.reg [
 iT 15 (.fad 2 (.l 2)),iT 16 (.ld false 1 (.t 15)),iT 17 (.fad 2 (.l 3)),iT 18 (.ld false 1 (.t 17)),iL 19 (.bin .neq (.t 16) (.t 18))]) (
 .cond (.l 19) (
 .seq (.reg [
 iL 4 (.mv (.c (.p (.b false))))]) (
 .ret)) (
 .skip))) (
 .seq (.seq (.reg [
 iT 20 (.fad 3 (.l 2)),iT 21 (.ld false 1 (.t 20)),iT 22 (.fad 3 (.l 3)),iT 23 (.ld false 1 (.t 22)),iT 24 (.call 152 [.t 21,.t 23]),iL 25 (.un .not (.t 24))]) (
 .cond (.l 25) (
 .seq (.reg [
 iL 4 (.mv (.c (.p (.b false))))]) (
 .ret)) (
 .skip))) (
 .seq (.reg [
 iL 4 (.mv (.c (.p (.b true))))]) (
 .ret))))))
theorem mc144_eq:(Tryz.f144.body.map (compile lv144 Tryz.prog 26))=some mc144:=by kernel_rfl
def mr144:List MR:=[.t 4]
theorem mr144_eq:cRess lv144 Tryz.prog Tryz.f144.results.toList=some mr144:=by kernel_rfl
theorem call144:CallT Tryz.prog 144 26 mc144 mr144:=acall_mc (by kernel_rfl) Tryz.func144 mc144_eq Tryz.ntmps144 (by kernel_rfl) mr144_eq
/- laws.eqPatS -/
def lv145:List Nat:=[0,1,4,5,10,14,26]
def mc145:MC :=
.seq (.reg [
 iL 4 (.mv (.c (.p (.b false))))]) (
 .seq (.seq (.reg [
 iT 6 (.mv (.l 0)),iT 7 (.len false (.t 6)),iT 8 (.mv (.l 1)),iT 9 (.len false (.t 8)),iL 10 (.bin .neq (.t 7) (.t 9))]) (
 .cond (.l 10) (
 .seq (.reg [
 iL 4 (.mv (.c (.p (.b false))))]) (
 .ret)) (
 .skip))) (
 .seq (.seq (.reg [
 iL 5 (.mv (cI 0))]) (
 .blk 0 (
 .loop (
 .seq (.seq (.reg [
 iT 11 (.mv (.l 5)),iT 12 (.mv (.l 0)),iT 13 (.len false (.t 12)),iL 14 (.bin .lss (.t 11) (.t 13))]) (
 .cond (.l 14) (
 .skip) (
 .exit 0))) (
 .seq (.blk 1 (
 .seq (.drw [
 iT 17 (.mv (.l 0)),iT 18 (.mv (.l 5)),iT 19 (.ixs 5 (.t 17) (.t 18)),iT 20 (.ld true 5 (.t 19)),iT 21 (.mv (.l 1)),iT 22 (.mv (.l 5)),iT 23 (.ixs 5 (.t 21) (.t 22)),iT 24 (.ld true 5 (.t 23))] [
 iT 25 (.call 120 [.t 20,.t 24]),iL 26 (.un .not (.t 25))]) (
 .cond (.l 26) (
 .seq (.reg [
 iL 4 (.mv (.c (.p (.b false))))]) (
 .ret)) (
 .skip)))) (
 .reg [
 iT 15 (.mv (.l 5)),iT 16 (.bin .add (.t 15) (cI 1)),iL 5 (.mv (.t 16))])))))) (
 .seq (.reg [
 iL 4 (.mv (.c (.p (.b true))))]) (
 .ret))))
theorem mc145_eq:(Tryz.f145.body.map (compile lv145 Tryz.prog 27))=some mc145:=by kernel_rfl
def mr145:List MR:=[.t 4]
theorem mr145_eq:cRess lv145 Tryz.prog Tryz.f145.results.toList=some mr145:=by kernel_rfl
theorem call145:CallT Tryz.prog 145 27 mc145 mr145:=acall_mc (by kernel_rfl) Tryz.func145 mc145_eq Tryz.ntmps145 (by kernel_rfl) mr145_eq
/- laws.szTypeExpS -/
def lv150:List Nat:=[0,1,4,5,11,15,25]
def mc150:MC :=
.seq (.reg [
 iL 4 (.mv (cI 0))]) (
 .seq (.reg [
 iT 6 (.mv (.l 1)),iT 7 (.mv (.l 0)),iT 8 (.len false (.t 7)),iT 9 (.bin .sub (.t 6) (.t 8)),iL 1 (.mv (.t 9))]) (
 .seq (.seq (.reg [
 iT 10 (.mv (.l 1)),iL 11 (.bin .lss (.t 10) (cI 0))]) (
 .cond (.l 11) (
 .seq (.reg [
 iL 4 (.mv (cI (-1)))]) (
 .ret)) (
 .skip))) (
 .seq (.seq (.reg [
 iL 5 (.mv (cI 0))]) (
 .blk 0 (
 .loop (
 .seq (.seq (.reg [
 iT 12 (.mv (.l 5)),iT 13 (.mv (.l 0)),iT 14 (.len false (.t 13)),iL 15 (.bin .lss (.t 12) (.t 14))]) (
 .cond (.l 15) (
 .skip) (
 .exit 0))) (
 .seq (.blk 1 (
 .seq (.reg [
 iT 18 (.mv (.l 0)),iT 19 (.mv (.l 5)),iT 20 (.ixs 4 (.t 18) (.t 19)),iT 21 (.ld true 4 (.t 20)),iT 22 (.mv (.l 1)),iT 23 (.call 140 [.t 21,.t 22]),iL 1 (.mv (.t 23))]) (
 .seq (.reg [
 iT 24 (.mv (.l 1)),iL 25 (.bin .lss (.t 24) (cI 0))]) (
 .cond (.l 25) (
 .seq (.reg [
 iL 4 (.mv (cI (-1)))]) (
 .ret)) (
 .skip))))) (
 .reg [
 iT 16 (.mv (.l 5)),iT 17 (.bin .add (.t 16) (cI 1)),iL 5 (.mv (.t 17))])))))) (
 .seq (.reg [
 iT 26 (.mv (.l 1)),iL 4 (.mv (.t 26))]) (
 .ret)))))
theorem mc150_eq:(Tryz.f150.body.map (compile lv150 Tryz.prog 27))=some mc150:=by kernel_rfl
def mr150:List MR:=[.t 4]
theorem mr150_eq:cRess lv150 Tryz.prog Tryz.f150.results.toList=some mr150:=by kernel_rfl
theorem call150:CallT Tryz.prog 150 27 mc150 mr150:=acall_mc (by kernel_rfl) Tryz.func150 mc150_eq Tryz.ntmps150 (by kernel_rfl) mr150_eq
/- laws.toTypeExpS -/
def lv151:List Nat:=[0,2,3,4,11]
def mc151:MC :=
.seq (.reg [
 iL 2 (.mv (.c (.p (.nl))))]) (
 .seq (.reg [
 iT 5 (.mv (.l 0)),iT 6 (.len false (.t 5)),iT 7 (.mks 4 56 [.p (.i .i64 0),.p (.s []),.p (.i .i64 0),.p (.nl)] (.t 6) (.t 6)),iL 3 (.mv (.t 7))]) (
 .seq (.seq (.reg [
 iL 4 (.mv (cI 0))]) (
 .blk 0 (
 .loop (
 .seq (.seq (.reg [
 iT 8 (.mv (.l 4)),iT 9 (.mv (.l 0)),iT 10 (.len false (.t 9)),iL 11 (.bin .lss (.t 8) (.t 10))]) (
 .cond (.l 11) (
 .skip) (
 .exit 0))) (
 .seq (.blk 1 (
 .reg [
 iT 14 (.mv (.l 3)),iT 15 (.mv (.l 4)),iT 16 (.mv (.l 0)),iT 17 (.mv (.l 4)),iT 18 (.ixs 4 (.t 16) (.t 17)),iT 19 (.ld true 4 (.t 18)),iT 20 (.call 142 [.t 19]),iT 21 (.ixs 4 (.t 14) (.t 15)),iN (.sto 4 (.t 21) (.t 20))])) (
 .reg [
 iT 12 (.mv (.l 4)),iT 13 (.bin .add (.t 12) (cI 1)),iL 4 (.mv (.t 13))])))))) (
 .seq (.reg [
 iT 22 (.mv (.l 3)),iL 2 (.mv (.t 22))]) (
 .ret))))
theorem mc151_eq:(Tryz.f151.body.map (compile lv151 Tryz.prog 23))=some mc151:=by kernel_rfl
def mr151:List MR:=[.t 2]
theorem mr151_eq:cRess lv151 Tryz.prog Tryz.f151.results.toList=some mr151:=by kernel_rfl
theorem call151:CallT Tryz.prog 151 23 mc151 mr151:=acall_mc (by kernel_rfl) Tryz.func151 mc151_eq Tryz.ntmps151 (by kernel_rfl) mr151_eq
/- laws.eqTypeExpS -/
def lv152:List Nat:=[0,1,4,5,10,14,26]
def mc152:MC :=
.seq (.reg [
 iL 4 (.mv (.c (.p (.b false))))]) (
 .seq (.seq (.reg [
 iT 6 (.mv (.l 0)),iT 7 (.len false (.t 6)),iT 8 (.mv (.l 1)),iT 9 (.len false (.t 8)),iL 10 (.bin .neq (.t 7) (.t 9))]) (
 .cond (.l 10) (
 .seq (.reg [
 iL 4 (.mv (.c (.p (.b false))))]) (
 .ret)) (
 .skip))) (
 .seq (.seq (.reg [
 iL 5 (.mv (cI 0))]) (
 .blk 0 (
 .loop (
 .seq (.seq (.reg [
 iT 11 (.mv (.l 5)),iT 12 (.mv (.l 0)),iT 13 (.len false (.t 12)),iL 14 (.bin .lss (.t 11) (.t 13))]) (
 .cond (.l 14) (
 .skip) (
 .exit 0))) (
 .seq (.blk 1 (
 .seq (.drw [
 iT 17 (.mv (.l 0)),iT 18 (.mv (.l 5)),iT 19 (.ixs 4 (.t 17) (.t 18)),iT 20 (.ld true 4 (.t 19)),iT 21 (.mv (.l 1)),iT 22 (.mv (.l 5)),iT 23 (.ixs 4 (.t 21) (.t 22)),iT 24 (.ld true 4 (.t 23))] [
 iT 25 (.call 144 [.t 20,.t 24]),iL 26 (.un .not (.t 25))]) (
 .cond (.l 26) (
 .seq (.reg [
 iL 4 (.mv (.c (.p (.b false))))]) (
 .ret)) (
 .skip)))) (
 .reg [
 iT 15 (.mv (.l 5)),iT 16 (.bin .add (.t 15) (cI 1)),iL 5 (.mv (.t 16))])))))) (
 .seq (.reg [
 iL 4 (.mv (.c (.p (.b true))))]) (
 .ret))))
theorem mc152_eq:(Tryz.f152.body.map (compile lv152 Tryz.prog 27))=some mc152:=by kernel_rfl
def mr152:List MR:=[.t 4]
theorem mr152_eq:cRess lv152 Tryz.prog Tryz.f152.results.toList=some mr152:=by kernel_rfl
theorem call152:CallT Tryz.prog 152 27 mc152 mr152:=acall_mc (by kernel_rfl) Tryz.func152 mc152_eq Tryz.ntmps152 (by kernel_rfl) mr152_eq
end Go.Proofs.YtnelfbcgplooiaaGreat.Mc
/- THE SMALL CODES of functions 14 15 38 39 40 41 74 75 76 77 78 111 112 16 42 79, and their ties to the program (printed by wip/tools/mkties2.py). -/
set_option linter.all false
namespace Go.Proofs.YtnelfbcgplooiaaGreat.Mc
open Go.AM
/- laws.markProg -/
def lv14:List Nat:=[0,1,2,4]
def mc14:MC :=
.seq (.reg [
 iL 2 (.box 8 (.l 0)),iL 4 (.mv (cI 0))]) (
 .seq (.reg [
 iT 5 (.fad 0 (.l 2)),iT 6 (.ld false 1 (.t 5)),iT 7 (.mv (.l 1)),iT 8 (.call 38 [.t 6,.t 7]),iL 1 (.mv (.t 8))]) (
 .seq (.reg [
 iT 9 (.fad 1 (.l 2)),iT 10 (.ld true 7 (.t 9)),iT 11 (.mv (.l 1)),iT 12 (.call 39 [.t 10,.t 11]),iL 1 (.mv (.t 12))]) (
 .seq (.reg [
 iT 13 (.mv (.l 1)),iL 4 (.mv (.t 13))]) (
 .ret))))
theorem mc14_eq:(Tryz.f14.body.map (compile lv14 Tryz.prog 14))=some mc14:=by kernel_rfl
def mr14:List MR:=[.t 4]
theorem mr14_eq:cRess lv14 Tryz.prog Tryz.f14.results.toList=some mr14:=by kernel_rfl
theorem call14:CallT Tryz.prog 14 14 mc14 mr14:=acall_mc (by kernel_rfl) Tryz.func14 mc14_eq Tryz.ntmps14 (by kernel_rfl) mr14_eq
/- laws.markDataInfoS -/
def lv15:List Nat:=[0,1,4,5,9]
def mc15:MC :=
.seq (.reg [
 iL 4 (.mv (cI 0))]) (
 .seq (.seq (.reg [
 iL 5 (.mv (cI 0))]) (
 .blk 0 (
 .loop (
 .seq (.seq (.reg [
 iT 6 (.mv (.l 5)),iT 7 (.mv (.l 0)),iT 8 (.len false (.t 7)),iL 9 (.bin .lss (.t 6) (.t 8))]) (
 .cond (.l 9) (
 .skip) (
 .exit 0))) (
 .seq (.blk 1 (
 .seq (.reg [
 iT 12 (.mv (.l 0)),iT 13 (.mv (.l 5)),iT 14 (.mv (.l 1)),iT 15 (.call 40 [.t 14]),iT 16 (.ixs 3 (.t 12) (.t 13)),iT 17 (.fad 0 (.t 16)),iN (.sto 1 (.t 17) (.t 15))]) (
 .seq (.reg [
 iT 18 (.mv (.l 1)),iT 19 (.bin .add (.t 18) (cI 1)),iL 1 (.mv (.t 19))]) (
 .seq (.reg [
 iT 20 (.mv (.l 0)),iT 21 (.mv (.l 5)),iT 22 (.mv (.l 1)),iT 23 (.ixs 3 (.t 20) (.t 21)),iT 24 (.fad 1 (.t 23)),iN (.sto 1 (.t 24) (.t 22))]) (
 .seq (.reg [
 iT 25 (.mv (.l 1)),iT 26 (.bin .add (.t 25) (cI 1)),iL 1 (.mv (.t 26))]) (
 .reg [
 iT 27 (.mv (.l 0)),iT 28 (.mv (.l 5)),iT 29 (.ixs 3 (.t 27) (.t 28)),iT 30 (.fad 2 (.t 29)),iT 31 (.ld false 1 (.t 30)),iT 32 (.mv (.l 1)),iT 33 (.call 41 [.t 31,.t 32]),iL 1 (.mv (.t 33))])))))) (
 .reg [
 iT 10 (.mv (.l 5)),iT 11 (.bin .add (.t 10) (cI 1)),iL 5 (.mv (.t 11))])))))) (
 .seq (.reg [
 iT 34 (.mv (.l 1)),iL 4 (.mv (.t 34))]) (
 .ret)))
theorem mc15_eq:(Tryz.f15.body.map (compile lv15 Tryz.prog 35))=some mc15:=by kernel_rfl
def mr15:List MR:=[.t 4]
theorem mr15_eq:cRess lv15 Tryz.prog Tryz.f15.results.toList=some mr15:=by kernel_rfl
theorem call15:CallT Tryz.prog 15 35 mc15 mr15:=acall_mc (by kernel_rfl) Tryz.func15 mc15_eq Tryz.ntmps15 (by kernel_rfl) mr15_eq
/- laws.markDataS -/
def lv38:List Nat:=[0,1,4,5,9]
def mc38:MC :=
.seq (.reg [
 iL 4 (.mv (cI 0))]) (
 .seq (.seq (.reg [
 iL 5 (.mv (cI 0))]) (
 .blk 0 (
 .loop (
 .seq (.seq (.reg [
 iT 6 (.mv (.l 5)),iT 7 (.mv (.l 0)),iT 8 (.len false (.t 7)),iL 9 (.bin .lss (.t 6) (.t 8))]) (
 .cond (.l 9) (
 .skip) (
 .exit 0))) (
 .seq (.blk 1 (
 .seq (.reg [
 iT 12 (.mv (.l 0)),iT 13 (.mv (.l 5)),iT 14 (.mv (.l 1)),iT 15 (.call 40 [.t 14]),iT 16 (.ixs 4 (.t 12) (.t 13)),iT 17 (.fad 0 (.t 16)),iN (.sto 1 (.t 17) (.t 15))]) (
 .seq (.reg [
 iT 18 (.mv (.l 1)),iT 19 (.bin .add (.t 18) (cI 1)),iL 1 (.mv (.t 19))]) (
 .seq (.reg [
 iT 20 (.mv (.l 0)),iT 21 (.mv (.l 5)),iT 22 (.ixs 4 (.t 20) (.t 21)),iT 23 (.fad 1 (.t 22)),iT 24 (.ld false 1 (.t 23)),iT 25 (.mv (.l 1)),iT 26 (.call 74 [.t 24,.t 25]),iL 1 (.mv (.t 26))]) (
 .seq (.reg [
 iT 27 (.mv (.l 0)),iT 28 (.mv (.l 5)),iT 29 (.ixs 4 (.t 27) (.t 28)),iT 30 (.fad 2 (.t 29)),iT 31 (.ld false 1 (.t 30)),iT 32 (.mv (.l 1)),iT 33 (.call 75 [.t 31,.t 32]),iL 1 (.mv (.t 33))]) (
 .seq (.reg [
 iT 34 (.mv (.l 0)),iT 35 (.mv (.l 5)),iT 36 (.mv (.l 1)),iT 37 (.ixs 4 (.t 34) (.t 35)),iT 38 (.fad 3 (.t 37)),iN (.sto 1 (.t 38) (.t 36))]) (
 .reg [
 iT 39 (.mv (.l 1)),iT 40 (.bin .add (.t 39) (cI 1)),iL 1 (.mv (.t 40))]))))))) (
 .reg [
 iT 10 (.mv (.l 5)),iT 11 (.bin .add (.t 10) (cI 1)),iL 5 (.mv (.t 11))])))))) (
 .seq (.reg [
 iT 41 (.mv (.l 1)),iL 4 (.mv (.t 41))]) (
 .ret)))
theorem mc38_eq:(Tryz.f38.body.map (compile lv38 Tryz.prog 42))=some mc38:=by kernel_rfl
def mr38:List MR:=[.t 4]
theorem mr38_eq:cRess lv38 Tryz.prog Tryz.f38.results.toList=some mr38:=by kernel_rfl
theorem call38:CallT Tryz.prog 38 42 mc38 mr38:=acall_mc (by kernel_rfl) Tryz.func38 mc38_eq Tryz.ntmps38 (by kernel_rfl) mr38_eq
/- laws.markExp -/
def lv39:List Nat:=[0,1,2,4]
def mc39:MC :=
.seq (.reg [
 iL 2 (.box 7 (.l 0)),iL 4 (.mv (cI 0))]) (
 .seq (.reg [
 iT 5 (.fad 5 (.l 2)),iT 6 (.ld false 1 (.t 5)),iT 7 (.mv (.l 1)),iT 8 (.call 76 [.t 6,.t 7]),iL 1 (.mv (.t 8))]) (
 .seq (.reg [
 iT 9 (.fad 6 (.l 2)),iT 10 (.ld false 1 (.t 9)),iT 11 (.mv (.l 1)),iT 12 (.call 77 [.t 10,.t 11]),iL 1 (.mv (.t 12))]) (
 .seq (.reg [
 iT 13 (.mv (.l 1)),iL 4 (.mv (.t 13))]) (
 .ret))))
theorem mc39_eq:(Tryz.f39.body.map (compile lv39 Tryz.prog 14))=some mc39:=by kernel_rfl
def mr39:List MR:=[.t 4]
theorem mr39_eq:cRess lv39 Tryz.prog Tryz.f39.results.toList=some mr39:=by kernel_rfl
theorem call39:CallT Tryz.prog 39 14 mc39 mr39:=acall_mc (by kernel_rfl) Tryz.func39 mc39_eq Tryz.ntmps39 (by kernel_rfl) mr39_eq
/- laws.markText -/
def lv40:List Nat:=[0,2,3,5,7]
def mc40:MC :=
.seq (.reg [
 iL 2 (.mv (.c (.p (.s []))))]) (
 .seq (.seq (.reg [
 iT 4 (.mv (.l 0)),iL 5 (.bin .leq (.t 4) (cI 0))]) (
 .cond (.l 5) (
 .seq (.reg [
 iL 2 (.mv (.c (.p (.s [109,48]))))]) (
 .ret)) (
 .skip))) (
 .seq (.reg [
 iL 3 (.mv (.c (.p (.s []))))]) (
 .seq (.blk 0 (
 .loop (
 .seq (.seq (.reg [
 iT 6 (.mv (.l 0)),iL 7 (.bin .gtr (.t 6) (cI 0))]) (
 .cond (.l 7) (
 .skip) (
 .exit 0))) (
 .blk 1 (
 .seq (.reg [
 iT 8 (.mv (.l 0)),iT 9 (.bin .rem (.t 8) (cI 10)),iT 10 (.bin .add (cI 48) (.t 9)),iT 11 (.conv .u8 (.t 10)),iT 12 (.bsl 1 [.p (.i .u8 0)] 1 [(0,(.t 11))]),iT 13 (.b2s (.t 12)),iT 14 (.mv (.l 3)),iT 15 (.bin .add (.t 13) (.t 14)),iL 3 (.mv (.t 15))]) (
 .reg [
 iT 16 (.mv (.l 0)),iT 17 (.bin .quo (.t 16) (cI 10)),iL 0 (.mv (.t 17))])))))) (
 .seq (.reg [
 iT 18 (.mv (.l 3)),iT 19 (.bin .add (.c (.p (.s [109]))) (.t 18)),iL 2 (.mv (.t 19))]) (
 .ret)))))
theorem mc40_eq:(Tryz.f40.body.map (compile lv40 Tryz.prog 20))=some mc40:=by kernel_rfl
def mr40:List MR:=[.t 2]
theorem mr40_eq:cRess lv40 Tryz.prog Tryz.f40.results.toList=some mr40:=by kernel_rfl
theorem call40:CallT Tryz.prog 40 20 mc40 mr40:=acall_mc (by kernel_rfl) Tryz.func40 mc40_eq Tryz.ntmps40 (by kernel_rfl) mr40_eq
/- laws.markCtorInfoS -/
def lv41:List Nat:=[0,1,4,5,9]
def mc41:MC :=
.seq (.reg [
 iL 4 (.mv (cI 0))]) (
 .seq (.seq (.reg [
 iL 5 (.mv (cI 0))]) (
 .blk 0 (
 .loop (
 .seq (.seq (.reg [
 iT 6 (.mv (.l 5)),iT 7 (.mv (.l 0)),iT 8 (.len false (.t 7)),iL 9 (.bin .lss (.t 6) (.t 8))]) (
 .cond (.l 9) (
 .skip) (
 .exit 0))) (
 .seq (.blk 1 (
 .seq (.reg [
 iT 12 (.mv (.l 0)),iT 13 (.mv (.l 5)),iT 14 (.mv (.l 1)),iT 15 (.call 40 [.t 14]),iT 16 (.ixs 6 (.t 12) (.t 13)),iT 17 (.fad 0 (.t 16)),iN (.sto 1 (.t 17) (.t 15))]) (
 .seq (.reg [
 iT 18 (.mv (.l 1)),iT 19 (.bin .add (.t 18) (cI 1)),iL 1 (.mv (.t 19))]) (
 .seq (.reg [
 iT 20 (.mv (.l 0)),iT 21 (.mv (.l 5)),iT 22 (.mv (.l 1)),iT 23 (.bin .rem (.t 22) (cI 3)),iT 24 (.bin .eql (.t 23) (cI 0)),iT 25 (.ixs 6 (.t 20) (.t 21)),iT 26 (.fad 1 (.t 25)),iN (.sto 1 (.t 26) (.t 24))]) (
 .seq (.reg [
 iT 27 (.mv (.l 1)),iT 28 (.bin .add (.t 27) (cI 1)),iL 1 (.mv (.t 28))]) (
 .seq (.reg [
 iT 29 (.mv (.l 0)),iT 30 (.mv (.l 5)),iT 31 (.mv (.l 1)),iT 32 (.ixs 6 (.t 29) (.t 30)),iT 33 (.fad 2 (.t 32)),iT 34 (.fad 0 (.t 33)),iN (.sto 1 (.t 34) (.t 31))]) (
 .seq (.reg [
 iT 35 (.mv (.l 1)),iT 36 (.bin .add (.t 35) (cI 1)),iL 1 (.mv (.t 36))]) (
 .seq (.reg [
 iT 37 (.mv (.l 0)),iT 38 (.mv (.l 5)),iT 39 (.mv (.l 1)),iT 40 (.ixs 6 (.t 37) (.t 38)),iT 41 (.fad 2 (.t 40)),iT 42 (.fad 1 (.t 41)),iN (.sto 1 (.t 42) (.t 39))]) (
 .seq (.reg [
 iT 43 (.mv (.l 1)),iT 44 (.bin .add (.t 43) (cI 1)),iL 1 (.mv (.t 44))]) (
 .seq (.reg [
 iT 45 (.mv (.l 0)),iT 46 (.mv (.l 5)),iT 47 (.mv (.l 1)),iT 48 (.call 40 [.t 47]),iT 49 (.ixs 6 (.t 45) (.t 46)),iT 50 (.fad 2 (.t 49)),iT 51 (.fad 2 (.t 50)),iN (.sto 1 (.t 51) (.t 48))]) (
 .seq (.reg [
 iT 52 (.mv (.l 1)),iT 53 (.bin .add (.t 52) (cI 1)),iL 1 (.mv (.t 53))]) (
 .reg [
 iT 54 (.mv (.l 0)),iT 55 (.mv (.l 5)),iT 56 (.ixs 6 (.t 54) (.t 55)),iT 57 (.fad 2 (.t 56)),iT 58 (.fad 3 (.t 57)),iT 59 (.ld false 1 (.t 58)),iT 60 (.mv (.l 1)),iT 61 (.call 78 [.t 59,.t 60]),iL 1 (.mv (.t 61))])))))))))))) (
 .reg [
 iT 10 (.mv (.l 5)),iT 11 (.bin .add (.t 10) (cI 1)),iL 5 (.mv (.t 11))])))))) (
 .seq (.reg [
 iT 62 (.mv (.l 1)),iL 4 (.mv (.t 62))]) (
 .ret)))
theorem mc41_eq:(Tryz.f41.body.map (compile lv41 Tryz.prog 63))=some mc41:=by kernel_rfl
def mr41:List MR:=[.t 4]
theorem mr41_eq:cRess lv41 Tryz.prog Tryz.f41.results.toList=some mr41:=by kernel_rfl
theorem call41:CallT Tryz.prog 41 63 mc41 mr41:=acall_mc (by kernel_rfl) Tryz.func41 mc41_eq Tryz.ntmps41 (by kernel_rfl) mr41_eq
/- laws.markStringS -/
def lv74:List Nat:=[0,1,4,5,9]
def mc74:MC :=
.seq (.reg [
 iL 4 (.mv (cI 0))]) (
 .seq (.seq (.reg [
 iL 5 (.mv (cI 0))]) (
 .blk 0 (
 .loop (
 .seq (.seq (.reg [
 iT 6 (.mv (.l 5)),iT 7 (.mv (.l 0)),iT 8 (.len false (.t 7)),iL 9 (.bin .lss (.t 6) (.t 8))]) (
 .cond (.l 9) (
 .skip) (
 .exit 0))) (
 .seq (.blk 1 (
 .seq (.reg [
 iT 12 (.mv (.l 0)),iT 13 (.mv (.l 5)),iT 14 (.mv (.l 1)),iT 15 (.call 40 [.t 14]),iT 16 (.ixs 1 (.t 12) (.t 13)),iN (.sto 1 (.t 16) (.t 15))]) (
 .reg [
 iT 17 (.mv (.l 1)),iT 18 (.bin .add (.t 17) (cI 1)),iL 1 (.mv (.t 18))]))) (
 .reg [
 iT 10 (.mv (.l 5)),iT 11 (.bin .add (.t 10) (cI 1)),iL 5 (.mv (.t 11))])))))) (
 .seq (.reg [
 iT 19 (.mv (.l 1)),iL 4 (.mv (.t 19))]) (
 .ret)))
theorem mc74_eq:(Tryz.f74.body.map (compile lv74 Tryz.prog 20))=some mc74:=by kernel_rfl
def mr74:List MR:=[.t 4]
theorem mr74_eq:cRess lv74 Tryz.prog Tryz.f74.results.toList=some mr74:=by kernel_rfl
theorem call74:CallT Tryz.prog 74 20 mc74 mr74:=acall_mc (by kernel_rfl) Tryz.func74 mc74_eq Tryz.ntmps74 (by kernel_rfl) mr74_eq
/- laws.markCtorS -/
def lv75:List Nat:=[0,1,4,5,9]
def mc75:MC :=
.seq (.reg [
 iL 4 (.mv (cI 0))]) (
 .seq (.seq (.reg [
 iL 5 (.mv (cI 0))]) (
 .blk 0 (
 .loop (
 .seq (.seq (.reg [
 iT 6 (.mv (.l 5)),iT 7 (.mv (.l 0)),iT 8 (.len false (.t 7)),iL 9 (.bin .lss (.t 6) (.t 8))]) (
 .cond (.l 9) (
 .skip) (
 .exit 0))) (
 .seq (.blk 1 (
 .seq (.reg [
 iT 12 (.mv (.l 0)),iT 13 (.mv (.l 5)),iT 14 (.mv (.l 1)),iT 15 (.call 40 [.t 14]),iT 16 (.ixs 7 (.t 12) (.t 13)),iT 17 (.fad 0 (.t 16)),iN (.sto 1 (.t 17) (.t 15))]) (
 .seq (.reg [
 iT 18 (.mv (.l 1)),iT 19 (.bin .add (.t 18) (cI 1)),iL 1 (.mv (.t 19))]) (
 .seq (.reg [
 iT 20 (.mv (.l 0)),iT 21 (.mv (.l 5)),iT 22 (.mv (.l 1)),iT 23 (.bin .rem (.t 22) (cI 3)),iT 24 (.bin .eql (.t 23) (cI 0)),iT 25 (.ixs 7 (.t 20) (.t 21)),iT 26 (.fad 1 (.t 25)),iN (.sto 1 (.t 26) (.t 24))]) (
 .seq (.reg [
 iT 27 (.mv (.l 1)),iT 28 (.bin .add (.t 27) (cI 1)),iL 1 (.mv (.t 28))]) (
 .seq (.reg [
 iT 29 (.mv (.l 0)),iT 30 (.mv (.l 5)),iT 31 (.mv (.l 1)),iT 32 (.ixs 7 (.t 29) (.t 30)),iT 33 (.fad 2 (.t 32)),iT 34 (.fad 0 (.t 33)),iN (.sto 1 (.t 34) (.t 31))]) (
 .seq (.reg [
 iT 35 (.mv (.l 1)),iT 36 (.bin .add (.t 35) (cI 1)),iL 1 (.mv (.t 36))]) (
 .seq (.reg [
 iT 37 (.mv (.l 0)),iT 38 (.mv (.l 5)),iT 39 (.mv (.l 1)),iT 40 (.call 40 [.t 39]),iT 41 (.ixs 7 (.t 37) (.t 38)),iT 42 (.fad 2 (.t 41)),iT 43 (.fad 1 (.t 42)),iN (.sto 1 (.t 43) (.t 40))]) (
 .seq (.reg [
 iT 44 (.mv (.l 1)),iT 45 (.bin .add (.t 44) (cI 1)),iL 1 (.mv (.t 45))]) (
 .seq (.reg [
 iT 46 (.mv (.l 0)),iT 47 (.mv (.l 5)),iT 48 (.mv (.l 1)),iT 49 (.ixs 7 (.t 46) (.t 47)),iT 50 (.fad 2 (.t 49)),iT 51 (.fad 2 (.t 50)),iN (.sto 1 (.t 51) (.t 48))]) (
 .seq (.reg [
 iT 52 (.mv (.l 1)),iT 53 (.bin .add (.t 52) (cI 1)),iL 1 (.mv (.t 53))]) (
 .seq (.reg [
 iT 54 (.mv (.l 0)),iT 55 (.mv (.l 5)),iT 56 (.ixs 7 (.t 54) (.t 55)),iT 57 (.fad 2 (.t 56)),iT 58 (.fad 3 (.t 57)),iT 59 (.ld false 1 (.t 58)),iT 60 (.mv (.l 1)),iT 61 (.call 111 [.t 59,.t 60]),iL 1 (.mv (.t 61))]) (
 .seq (.reg [
 iT 62 (.mv (.l 0)),iT 63 (.mv (.l 5)),iT 64 (.mv (.l 1)),iT 65 (.ixs 7 (.t 62) (.t 63)),iT 66 (.fad 6 (.t 65)),iN (.sto 1 (.t 66) (.t 64))]) (
 .reg [
 iT 67 (.mv (.l 1)),iT 68 (.bin .add (.t 67) (cI 1)),iL 1 (.mv (.t 68))])))))))))))))) (
 .reg [
 iT 10 (.mv (.l 5)),iT 11 (.bin .add (.t 10) (cI 1)),iL 5 (.mv (.t 11))])))))) (
 .seq (.reg [
 iT 69 (.mv (.l 1)),iL 4 (.mv (.t 69))]) (
 .ret)))
theorem mc75_eq:(Tryz.f75.body.map (compile lv75 Tryz.prog 70))=some mc75:=by kernel_rfl
def mr75:List MR:=[.t 4]
theorem mr75_eq:cRess lv75 Tryz.prog Tryz.f75.results.toList=some mr75:=by kernel_rfl
theorem call75:CallT Tryz.prog 75 70 mc75 mr75:=acall_mc (by kernel_rfl) Tryz.func75 mc75_eq Tryz.ntmps75 (by kernel_rfl) mr75_eq
/- laws.markExpS -/
def lv76:List Nat:=[0,1,4,5,9]
def mc76:MC :=
.seq (.reg [
 iL 4 (.mv (cI 0))]) (
 .seq (.seq (.reg [
 iL 5 (.mv (cI 0))]) (
 .blk 0 (
 .loop (
 .seq (.seq (.reg [
 iT 6 (.mv (.l 5)),iT 7 (.mv (.l 0)),iT 8 (.len false (.t 7)),iL 9 (.bin .lss (.t 6) (.t 8))]) (
 .cond (.l 9) (
 .skip) (
 .exit 0))) (
 .seq (.blk 1 (
 .seq (.reg [
 iT 12 (.mv (.l 0)),iT 13 (.mv (.l 5)),iT 14 (.mv (.l 1)),iT 15 (.ixs 7 (.t 12) (.t 13)),iT 16 (.fad 0 (.t 15)),iN (.sto 1 (.t 16) (.t 14))]) (
 .seq (.reg [
 iT 17 (.mv (.l 1)),iT 18 (.bin .add (.t 17) (cI 1)),iL 1 (.mv (.t 18))]) (
 .seq (.reg [
 iT 19 (.mv (.l 0)),iT 20 (.mv (.l 5)),iT 21 (.mv (.l 1)),iT 22 (.call 40 [.t 21]),iT 23 (.ixs 7 (.t 19) (.t 20)),iT 24 (.fad 1 (.t 23)),iN (.sto 1 (.t 24) (.t 22))]) (
 .seq (.reg [
 iT 25 (.mv (.l 1)),iT 26 (.bin .add (.t 25) (cI 1)),iL 1 (.mv (.t 26))]) (
 .seq (.reg [
 iT 27 (.mv (.l 0)),iT 28 (.mv (.l 5)),iT 29 (.mv (.l 1)),iT 30 (.ixs 7 (.t 27) (.t 28)),iT 31 (.fad 2 (.t 30)),iN (.sto 1 (.t 31) (.t 29))]) (
 .seq (.reg [
 iT 32 (.mv (.l 1)),iT 33 (.bin .add (.t 32) (cI 1)),iL 1 (.mv (.t 33))]) (
 .seq (.reg [
 iT 34 (.mv (.l 0)),iT 35 (.mv (.l 5)),iT 36 (.mv (.l 1)),iT 37 (.call 40 [.t 36]),iT 38 (.ixs 7 (.t 34) (.t 35)),iT 39 (.fad 3 (.t 38)),iN (.sto 1 (.t 39) (.t 37))]) (
 .seq (.reg [
 iT 40 (.mv (.l 1)),iT 41 (.bin .add (.t 40) (cI 1)),iL 1 (.mv (.t 41))]) (
 .seq (.reg [
 iT 42 (.mv (.l 0)),iT 43 (.mv (.l 5)),iT 44 (.mv (.l 1)),iT 45 (.ixs 7 (.t 42) (.t 43)),iT 46 (.fad 4 (.t 45)),iN (.sto 1 (.t 46) (.t 44))]) (
 .seq (.reg [
 iT 47 (.mv (.l 1)),iT 48 (.bin .add (.t 47) (cI 1)),iL 1 (.mv (.t 48))]) (
 .seq (.reg [
 iT 49 (.mv (.l 0)),iT 50 (.mv (.l 5)),iT 51 (.ixs 7 (.t 49) (.t 50)),iT 52 (.fad 5 (.t 51)),iT 53 (.ld false 1 (.t 52)),iT 54 (.mv (.l 1)),iT 55 (.call 76 [.t 53,.t 54]),iL 1 (.mv (.t 55))]) (
 .reg [
 iT 56 (.mv (.l 0)),iT 57 (.mv (.l 5)),iT 58 (.ixs 7 (.t 56) (.t 57)),iT 59 (.fad 6 (.t 58)),iT 60 (.ld false 1 (.t 59)),iT 61 (.mv (.l 1)),iT 62 (.call 77 [.t 60,.t 61]),iL 1 (.mv (.t 62))]))))))))))))) (
 .reg [
 iT 10 (.mv (.l 5)),iT 11 (.bin .add (.t 10) (cI 1)),iL 5 (.mv (.t 11))])))))) (
 .seq (.reg [
 iT 63 (.mv (.l 1)),iL 4 (.mv (.t 63))]) (
 .ret)))
theorem mc76_eq:(Tryz.f76.body.map (compile lv76 Tryz.prog 64))=some mc76:=by kernel_rfl
def mr76:List MR:=[.t 4]
theorem mr76_eq:cRess lv76 Tryz.prog Tryz.f76.results.toList=some mr76:=by kernel_rfl
theorem call76:CallT Tryz.prog 76 64 mc76 mr76:=acall_mc (by kernel_rfl) Tryz.func76 mc76_eq Tryz.ntmps76 (by kernel_rfl) mr76_eq
/- laws.markArmS -/
def lv77:List Nat:=[0,1,4,5,9]
def mc77:MC :=
.seq (.reg [
 iL 4 (.mv (cI 0))]) (
 .seq (.seq (.reg [
 iL 5 (.mv (cI 0))]) (
 .blk 0 (
 .loop (
 .seq (.seq (.reg [
 iT 6 (.mv (.l 5)),iT 7 (.mv (.l 0)),iT 8 (.len false (.t 7)),iL 9 (.bin .lss (.t 6) (.t 8))]) (
 .cond (.l 9) (
 .skip) (
 .exit 0))) (
 .seq (.blk 1 (
 .seq (.reg [
 iT 12 (.mv (.l 0)),iT 13 (.mv (.l 5)),iT 14 (.mv (.l 1)),iT 15 (.ixs 12 (.t 12) (.t 13)),iT 16 (.fad 0 (.t 15)),iT 17 (.fad 0 (.t 16)),iN (.sto 1 (.t 17) (.t 14))]) (
 .seq (.reg [
 iT 18 (.mv (.l 1)),iT 19 (.bin .add (.t 18) (cI 1)),iL 1 (.mv (.t 19))]) (
 .seq (.reg [
 iT 20 (.mv (.l 0)),iT 21 (.mv (.l 5)),iT 22 (.mv (.l 1)),iT 23 (.call 40 [.t 22]),iT 24 (.ixs 12 (.t 20) (.t 21)),iT 25 (.fad 0 (.t 24)),iT 26 (.fad 1 (.t 25)),iN (.sto 1 (.t 26) (.t 23))]) (
 .seq (.reg [
 iT 27 (.mv (.l 1)),iT 28 (.bin .add (.t 27) (cI 1)),iL 1 (.mv (.t 28))]) (
 .seq (.reg [
 iT 29 (.mv (.l 0)),iT 30 (.mv (.l 5)),iT 31 (.mv (.l 1)),iT 32 (.ixs 12 (.t 29) (.t 30)),iT 33 (.fad 0 (.t 32)),iT 34 (.fad 2 (.t 33)),iN (.sto 1 (.t 34) (.t 31))]) (
 .seq (.reg [
 iT 35 (.mv (.l 1)),iT 36 (.bin .add (.t 35) (cI 1)),iL 1 (.mv (.t 36))]) (
 .seq (.reg [
 iT 37 (.mv (.l 0)),iT 38 (.mv (.l 5)),iT 39 (.mv (.l 1)),iT 40 (.ixs 12 (.t 37) (.t 38)),iT 41 (.fad 0 (.t 40)),iT 42 (.fad 3 (.t 41)),iN (.sto 1 (.t 42) (.t 39))]) (
 .seq (.reg [
 iT 43 (.mv (.l 1)),iT 44 (.bin .add (.t 43) (cI 1)),iL 1 (.mv (.t 44))]) (
 .seq (.reg [
 iT 45 (.mv (.l 0)),iT 46 (.mv (.l 5)),iT 47 (.ixs 12 (.t 45) (.t 46)),iT 48 (.fad 0 (.t 47)),iT 49 (.fad 4 (.t 48)),iT 50 (.ld false 1 (.t 49)),iT 51 (.mv (.l 1)),iT 52 (.call 112 [.t 50,.t 51]),iL 1 (.mv (.t 52))]) (
 .seq (.reg [
 iT 53 (.mv (.l 0)),iT 54 (.mv (.l 5)),iT 55 (.mv (.l 1)),iT 56 (.ixs 12 (.t 53) (.t 54)),iT 57 (.fad 5 (.t 56)),iT 58 (.fad 0 (.t 57)),iN (.sto 1 (.t 58) (.t 55))]) (
 .seq (.reg [
 iT 59 (.mv (.l 1)),iT 60 (.bin .add (.t 59) (cI 1)),iL 1 (.mv (.t 60))]) (
 .seq (.reg [
 iT 61 (.mv (.l 0)),iT 62 (.mv (.l 5)),iT 63 (.mv (.l 1)),iT 64 (.call 40 [.t 63]),iT 65 (.ixs 12 (.t 61) (.t 62)),iT 66 (.fad 5 (.t 65)),iT 67 (.fad 1 (.t 66)),iN (.sto 1 (.t 67) (.t 64))]) (
 .seq (.reg [
 iT 68 (.mv (.l 1)),iT 69 (.bin .add (.t 68) (cI 1)),iL 1 (.mv (.t 69))]) (
 .seq (.reg [
 iT 70 (.mv (.l 0)),iT 71 (.mv (.l 5)),iT 72 (.mv (.l 1)),iT 73 (.ixs 12 (.t 70) (.t 71)),iT 74 (.fad 5 (.t 73)),iT 75 (.fad 2 (.t 74)),iN (.sto 1 (.t 75) (.t 72))]) (
 .seq (.reg [
 iT 76 (.mv (.l 1)),iT 77 (.bin .add (.t 76) (cI 1)),iL 1 (.mv (.t 77))]) (
 .seq (.reg [
 iT 78 (.mv (.l 0)),iT 79 (.mv (.l 5)),iT 80 (.mv (.l 1)),iT 81 (.call 40 [.t 80]),iT 82 (.ixs 12 (.t 78) (.t 79)),iT 83 (.fad 5 (.t 82)),iT 84 (.fad 3 (.t 83)),iN (.sto 1 (.t 84) (.t 81))]) (
 .seq (.reg [
 iT 85 (.mv (.l 1)),iT 86 (.bin .add (.t 85) (cI 1)),iL 1 (.mv (.t 86))]) (
 .seq (.reg [
 iT 87 (.mv (.l 0)),iT 88 (.mv (.l 5)),iT 89 (.mv (.l 1)),iT 90 (.ixs 12 (.t 87) (.t 88)),iT 91 (.fad 5 (.t 90)),iT 92 (.fad 4 (.t 91)),iN (.sto 1 (.t 92) (.t 89))]) (
 .seq (.reg [
 iT 93 (.mv (.l 1)),iT 94 (.bin .add (.t 93) (cI 1)),iL 1 (.mv (.t 94))]) (
 .seq (.reg [
 iT 95 (.mv (.l 0)),iT 96 (.mv (.l 5)),iT 97 (.ixs 12 (.t 95) (.t 96)),iT 98 (.fad 5 (.t 97)),iT 99 (.fad 5 (.t 98)),iT 100 (.ld false 1 (.t 99)),iT 101 (.mv (.l 1)),iT 102 (.call 76 [.t 100,.t 101]),iL 1 (.mv (.t 102))]) (
 .reg [
 iT 103 (.mv (.l 0)),iT 104 (.mv (.l 5)),iT 105 (.ixs 12 (.t 103) (.t 104)),iT 106 (.fad 5 (.t 105)),iT 107 (.fad 6 (.t 106)),iT 108 (.ld false 1 (.t 107)),iT 109 (.mv (.l 1)),iT 110 (.call 77 [.t 108,.t 109]),iL 1 (.mv (.t 110))])))))))))))))))))))))) (
 .reg [
 iT 10 (.mv (.l 5)),iT 11 (.bin .add (.t 10) (cI 1)),iL 5 (.mv (.t 11))])))))) (
 .seq (.reg [
 iT 111 (.mv (.l 1)),iL 4 (.mv (.t 111))]) (
 .ret)))
theorem mc77_eq:(Tryz.f77.body.map (compile lv77 Tryz.prog 112))=some mc77:=by kernel_rfl
def mr77:List MR:=[.t 4]
theorem mr77_eq:cRess lv77 Tryz.prog Tryz.f77.results.toList=some mr77:=by kernel_rfl
theorem call77:CallT Tryz.prog 77 112 mc77 mr77:=acall_mc (by kernel_rfl) Tryz.func77 mc77_eq Tryz.ntmps77 (by kernel_rfl) mr77_eq
/- laws.markTyS -/
def lv78:List Nat:=[0,1,4,5,9]
def mc78:MC :=
.seq (.reg [
 iL 4 (.mv (cI 0))]) (
 .seq (.seq (.reg [
 iL 5 (.mv (cI 0))]) (
 .blk 0 (
 .loop (
 .seq (.seq (.reg [
 iT 6 (.mv (.l 5)),iT 7 (.mv (.l 0)),iT 8 (.len false (.t 7)),iL 9 (.bin .lss (.t 6) (.t 8))]) (
 .cond (.l 9) (
 .skip) (
 .exit 0))) (
 .seq (.blk 1 (
 .seq (.reg [
 iT 12 (.mv (.l 0)),iT 13 (.mv (.l 5)),iT 14 (.mv (.l 1)),iT 15 (.ixs 4 (.t 12) (.t 13)),iT 16 (.fad 0 (.t 15)),iN (.sto 1 (.t 16) (.t 14))]) (
 .seq (.reg [
 iT 17 (.mv (.l 1)),iT 18 (.bin .add (.t 17) (cI 1)),iL 1 (.mv (.t 18))]) (
 .seq (.reg [
 iT 19 (.mv (.l 0)),iT 20 (.mv (.l 5)),iT 21 (.mv (.l 1)),iT 22 (.ixs 4 (.t 19) (.t 20)),iT 23 (.fad 1 (.t 22)),iN (.sto 1 (.t 23) (.t 21))]) (
 .seq (.reg [
 iT 24 (.mv (.l 1)),iT 25 (.bin .add (.t 24) (cI 1)),iL 1 (.mv (.t 25))]) (
 .seq (.reg [
 iT 26 (.mv (.l 0)),iT 27 (.mv (.l 5)),iT 28 (.mv (.l 1)),iT 29 (.call 40 [.t 28]),iT 30 (.ixs 4 (.t 26) (.t 27)),iT 31 (.fad 2 (.t 30)),iN (.sto 1 (.t 31) (.t 29))]) (
 .seq (.reg [
 iT 32 (.mv (.l 1)),iT 33 (.bin .add (.t 32) (cI 1)),iL 1 (.mv (.t 33))]) (
 .reg [
 iT 34 (.mv (.l 0)),iT 35 (.mv (.l 5)),iT 36 (.ixs 4 (.t 34) (.t 35)),iT 37 (.fad 3 (.t 36)),iT 38 (.ld false 1 (.t 37)),iT 39 (.mv (.l 1)),iT 40 (.call 78 [.t 38,.t 39]),iL 1 (.mv (.t 40))])))))))) (
 .reg [
 iT 10 (.mv (.l 5)),iT 11 (.bin .add (.t 10) (cI 1)),iL 5 (.mv (.t 11))])))))) (
 .seq (.reg [
 iT 41 (.mv (.l 1)),iL 4 (.mv (.t 41))]) (
 .ret)))
theorem mc78_eq:(Tryz.f78.body.map (compile lv78 Tryz.prog 42))=some mc78:=by kernel_rfl
def mr78:List MR:=[.t 4]
theorem mr78_eq:cRess lv78 Tryz.prog Tryz.f78.results.toList=some mr78:=by kernel_rfl
theorem call78:CallT Tryz.prog 78 42 mc78 mr78:=acall_mc (by kernel_rfl) Tryz.func78 mc78_eq Tryz.ntmps78 (by kernel_rfl) mr78_eq
/- laws.markTypeExpS -/
def lv111:List Nat:=[0,1,4,5,9]
def mc111:MC :=
.seq (.reg [
 iL 4 (.mv (cI 0))]) (
 .seq (.seq (.reg [
 iL 5 (.mv (cI 0))]) (
 .blk 0 (
 .loop (
 .seq (.seq (.reg [
 iT 6 (.mv (.l 5)),iT 7 (.mv (.l 0)),iT 8 (.len false (.t 7)),iL 9 (.bin .lss (.t 6) (.t 8))]) (
 .cond (.l 9) (
 .skip) (
 .exit 0))) (
 .seq (.blk 1 (
 .seq (.reg [
 iT 12 (.mv (.l 0)),iT 13 (.mv (.l 5)),iT 14 (.mv (.l 1)),iT 15 (.ixs 4 (.t 12) (.t 13)),iT 16 (.fad 0 (.t 15)),iN (.sto 1 (.t 16) (.t 14))]) (
 .seq (.reg [
 iT 17 (.mv (.l 1)),iT 18 (.bin .add (.t 17) (cI 1)),iL 1 (.mv (.t 18))]) (
 .seq (.reg [
 iT 19 (.mv (.l 0)),iT 20 (.mv (.l 5)),iT 21 (.mv (.l 1)),iT 22 (.call 40 [.t 21]),iT 23 (.ixs 4 (.t 19) (.t 20)),iT 24 (.fad 1 (.t 23)),iN (.sto 1 (.t 24) (.t 22))]) (
 .seq (.reg [
 iT 25 (.mv (.l 1)),iT 26 (.bin .add (.t 25) (cI 1)),iL 1 (.mv (.t 26))]) (
 .seq (.reg [
 iT 27 (.mv (.l 0)),iT 28 (.mv (.l 5)),iT 29 (.mv (.l 1)),iT 30 (.ixs 4 (.t 27) (.t 28)),iT 31 (.fad 2 (.t 30)),iN (.sto 1 (.t 31) (.t 29))]) (
 .seq (.reg [
 iT 32 (.mv (.l 1)),iT 33 (.bin .add (.t 32) (cI 1)),iL 1 (.mv (.t 33))]) (
 .reg [
 iT 34 (.mv (.l 0)),iT 35 (.mv (.l 5)),iT 36 (.ixs 4 (.t 34) (.t 35)),iT 37 (.fad 3 (.t 36)),iT 38 (.ld false 1 (.t 37)),iT 39 (.mv (.l 1)),iT 40 (.call 111 [.t 38,.t 39]),iL 1 (.mv (.t 40))])))))))) (
 .reg [
 iT 10 (.mv (.l 5)),iT 11 (.bin .add (.t 10) (cI 1)),iL 5 (.mv (.t 11))])))))) (
 .seq (.reg [
 iT 41 (.mv (.l 1)),iL 4 (.mv (.t 41))]) (
 .ret)))
theorem mc111_eq:(Tryz.f111.body.map (compile lv111 Tryz.prog 42))=some mc111:=by kernel_rfl
def mr111:List MR:=[.t 4]
theorem mr111_eq:cRess lv111 Tryz.prog Tryz.f111.results.toList=some mr111:=by kernel_rfl
theorem call111:CallT Tryz.prog 111 42 mc111 mr111:=acall_mc (by kernel_rfl) Tryz.func111 mc111_eq Tryz.ntmps111 (by kernel_rfl) mr111_eq
/- laws.markPatS -/
def lv112:List Nat:=[0,1,4,5,9]
def mc112:MC :=
.seq (.reg [
 iL 4 (.mv (cI 0))]) (
 .seq (.seq (.reg [
 iL 5 (.mv (cI 0))]) (
 .blk 0 (
 .loop (
 .seq (.seq (.reg [
 iT 6 (.mv (.l 5)),iT 7 (.mv (.l 0)),iT 8 (.len false (.t 7)),iL 9 (.bin .lss (.t 6) (.t 8))]) (
 .cond (.l 9) (
 .skip) (
 .exit 0))) (
 .seq (.blk 1 (
 .seq (.reg [
 iT 12 (.mv (.l 0)),iT 13 (.mv (.l 5)),iT 14 (.mv (.l 1)),iT 15 (.ixs 5 (.t 12) (.t 13)),iT 16 (.fad 0 (.t 15)),iN (.sto 1 (.t 16) (.t 14))]) (
 .seq (.reg [
 iT 17 (.mv (.l 1)),iT 18 (.bin .add (.t 17) (cI 1)),iL 1 (.mv (.t 18))]) (
 .seq (.reg [
 iT 19 (.mv (.l 0)),iT 20 (.mv (.l 5)),iT 21 (.mv (.l 1)),iT 22 (.call 40 [.t 21]),iT 23 (.ixs 5 (.t 19) (.t 20)),iT 24 (.fad 1 (.t 23)),iN (.sto 1 (.t 24) (.t 22))]) (
 .seq (.reg [
 iT 25 (.mv (.l 1)),iT 26 (.bin .add (.t 25) (cI 1)),iL 1 (.mv (.t 26))]) (
 .seq (.reg [
 iT 27 (.mv (.l 0)),iT 28 (.mv (.l 5)),iT 29 (.mv (.l 1)),iT 30 (.ixs 5 (.t 27) (.t 28)),iT 31 (.fad 2 (.t 30)),iN (.sto 1 (.t 31) (.t 29))]) (
 .seq (.reg [
 iT 32 (.mv (.l 1)),iT 33 (.bin .add (.t 32) (cI 1)),iL 1 (.mv (.t 33))]) (
 .seq (.reg [
 iT 34 (.mv (.l 0)),iT 35 (.mv (.l 5)),iT 36 (.mv (.l 1)),iT 37 (.ixs 5 (.t 34) (.t 35)),iT 38 (.fad 3 (.t 37)),iN (.sto 1 (.t 38) (.t 36))]) (
 .seq (.reg [
 iT 39 (.mv (.l 1)),iT 40 (.bin .add (.t 39) (cI 1)),iL 1 (.mv (.t 40))]) (
 .reg [
 iT 41 (.mv (.l 0)),iT 42 (.mv (.l 5)),iT 43 (.ixs 5 (.t 41) (.t 42)),iT 44 (.fad 4 (.t 43)),iT 45 (.ld false 1 (.t 44)),iT 46 (.mv (.l 1)),iT 47 (.call 112 [.t 45,.t 46]),iL 1 (.mv (.t 47))])))))))))) (
 .reg [
 iT 10 (.mv (.l 5)),iT 11 (.bin .add (.t 10) (cI 1)),iL 5 (.mv (.t 11))])))))) (
 .seq (.reg [
 iT 48 (.mv (.l 1)),iL 4 (.mv (.t 48))]) (
 .ret)))
theorem mc112_eq:(Tryz.f112.body.map (compile lv112 Tryz.prog 49))=some mc112:=by kernel_rfl
def mr112:List MR:=[.t 4]
theorem mr112_eq:cRess lv112 Tryz.prog Tryz.f112.results.toList=some mr112:=by kernel_rfl
theorem call112:CallT Tryz.prog 112 49 mc112 mr112:=acall_mc (by kernel_rfl) Tryz.func112 mc112_eq Tryz.ntmps112 (by kernel_rfl) mr112_eq
/- laws.heldDataInfoS -/
def lv16:List Nat:=[0,1,4,5,9,19,28,39]
def mc16:MC :=
.seq (.reg [
 iL 4 (.mv (cI 0))]) (
 .seq (.seq (.reg [
 iL 5 (.mv (cI 0))]) (
 .blk 0 (
 .loop (
 .seq (.seq (.reg [
 iT 6 (.mv (.l 5)),iT 7 (.mv (.l 0)),iT 8 (.len false (.t 7)),iL 9 (.bin .lss (.t 6) (.t 8))]) (
 .cond (.l 9) (
 .skip) (
 .exit 0))) (
 .seq (.blk 1 (
 .seq (.seq (.drw [
 iT 12 (.mv (.l 0)),iT 13 (.mv (.l 5)),iT 14 (.ixs 3 (.t 12) (.t 13)),iT 15 (.fad 0 (.t 14)),iT 16 (.ld false 1 (.t 15)),iT 17 (.mv (.l 1)),iT 18 (.call 40 [.t 17])] [
 iL 19 (.bin .neq (.t 16) (.t 18))]) (
 .cond (.l 19) (
 .seq (.reg [
 iL 4 (.mv (cI (-1)))]) (
 .ret)) (
 .skip))) (
 .seq (.reg [
 iT 20 (.mv (.l 1)),iT 21 (.bin .add (.t 20) (cI 1)),iL 1 (.mv (.t 21))]) (
 .seq (.seq (.reg [
 iT 22 (.mv (.l 0)),iT 23 (.mv (.l 5)),iT 24 (.ixs 3 (.t 22) (.t 23)),iT 25 (.fad 1 (.t 24)),iT 26 (.ld false 1 (.t 25)),iT 27 (.mv (.l 1)),iL 28 (.bin .neq (.t 26) (.t 27))]) (
 .cond (.l 28) (
 .seq (.reg [
 iL 4 (.mv (cI (-1)))]) (
 .ret)) (
 .skip))) (
 .seq (.reg [
 iT 29 (.mv (.l 1)),iT 30 (.bin .add (.t 29) (cI 1)),iL 1 (.mv (.t 30))]) (
 .seq (.reg [
 iT 31 (.mv (.l 0)),iT 32 (.mv (.l 5)),iT 33 (.ixs 3 (.t 31) (.t 32)),iT 34 (.fad 2 (.t 33)),iT 35 (.ld false 1 (.t 34)),iT 36 (.mv (.l 1)),iT 37 (.call 42 [.t 35,.t 36]),iL 1 (.mv (.t 37))]) (
 .seq (.reg [
 iT 38 (.mv (.l 1)),iL 39 (.bin .lss (.t 38) (cI 0))]) (
 .cond (.l 39) (
 .seq (.reg [
 iL 4 (.mv (cI (-1)))]) (
 .ret)) (
 .skip))))))))) (
 .reg [
 iT 10 (.mv (.l 5)),iT 11 (.bin .add (.t 10) (cI 1)),iL 5 (.mv (.t 11))])))))) (
 .seq (.reg [
 iT 40 (.mv (.l 1)),iL 4 (.mv (.t 40))]) (
 .ret)))
theorem mc16_eq:(Tryz.f16.body.map (compile lv16 Tryz.prog 41))=some mc16:=by kernel_rfl
def mr16:List MR:=[.t 4]
theorem mr16_eq:cRess lv16 Tryz.prog Tryz.f16.results.toList=some mr16:=by kernel_rfl
theorem call16:CallT Tryz.prog 16 41 mc16 mr16:=acall_mc (by kernel_rfl) Tryz.func16 mc16_eq Tryz.ntmps16 (by kernel_rfl) mr16_eq
/- laws.heldCtorInfoS -/
def lv42:List Nat:=[0,1,4,5,9,19,30,40,50,61,73]
def mc42:MC :=
.seq (.reg [
 iL 4 (.mv (cI 0))]) (
 .seq (.seq (.reg [
 iL 5 (.mv (cI 0))]) (
 .blk 0 (
 .loop (
 .seq (.seq (.reg [
 iT 6 (.mv (.l 5)),iT 7 (.mv (.l 0)),iT 8 (.len false (.t 7)),iL 9 (.bin .lss (.t 6) (.t 8))]) (
 .cond (.l 9) (
 .skip) (
 .exit 0))) (
 .seq (.blk 1 (
 .seq (.seq (.drw [
 iT 12 (.mv (.l 0)),iT 13 (.mv (.l 5)),iT 14 (.ixs 6 (.t 12) (.t 13)),iT 15 (.fad 0 (.t 14)),iT 16 (.ld false 1 (.t 15)),iT 17 (.mv (.l 1)),iT 18 (.call 40 [.t 17])] [
 iL 19 (.bin .neq (.t 16) (.t 18))]) (
 .cond (.l 19) (
 .seq (.reg [
 iL 4 (.mv (cI (-1)))]) (
 .ret)) (
 .skip))) (
 .seq (.reg [
 iT 20 (.mv (.l 1)),iT 21 (.bin .add (.t 20) (cI 1)),iL 1 (.mv (.t 21))]) (
 .seq (.seq (.reg [
 iT 22 (.mv (.l 0)),iT 23 (.mv (.l 5)),iT 24 (.ixs 6 (.t 22) (.t 23)),iT 25 (.fad 1 (.t 24)),iT 26 (.ld false 1 (.t 25)),iT 27 (.mv (.l 1)),iT 28 (.bin .rem (.t 27) (cI 3)),iT 29 (.bin .eql (.t 28) (cI 0)),iL 30 (.beq true (.t 26) (.t 29))]) (
 .cond (.l 30) (
 .seq (.reg [
 iL 4 (.mv (cI (-1)))]) (
 .ret)) (
 .skip))) (
 .seq (.reg [
 iT 31 (.mv (.l 1)),iT 32 (.bin .add (.t 31) (cI 1)),iL 1 (.mv (.t 32))]) (
 .seq (.seq (.reg [
 iT 33 (.mv (.l 0)),iT 34 (.mv (.l 5)),iT 35 (.ixs 6 (.t 33) (.t 34)),iT 36 (.fad 2 (.t 35)),iT 37 (.fad 0 (.t 36)),iT 38 (.ld false 1 (.t 37)),iT 39 (.mv (.l 1)),iL 40 (.bin .neq (.t 38) (.t 39))]) (
 .cond (.l 40) (
 .seq (.reg [
 iL 4 (.mv (cI (-1)))]) (
 .ret)) (
 .skip))) (
 .seq (.reg [
 iT 41 (.mv (.l 1)),iT 42 (.bin .add (.t 41) (cI 1)),iL 1 (.mv (.t 42))]) (
 .seq (.seq (.reg [
 iT 43 (.mv (.l 0)),iT 44 (.mv (.l 5)),iT 45 (.ixs 6 (.t 43) (.t 44)),iT 46 (.fad 2 (.t 45)),iT 47 (.fad 1 (.t 46)),iT 48 (.ld false 1 (.t 47)),iT 49 (.mv (.l 1)),iL 50 (.bin .neq (.t 48) (.t 49))]) (
 .cond (.l 50) (
 .seq (.reg [
 iL 4 (.mv (cI (-1)))]) (
 .ret)) (
 .skip))) (
 .seq (.reg [
 iT 51 (.mv (.l 1)),iT 52 (.bin .add (.t 51) (cI 1)),iL 1 (.mv (.t 52))]) (
 .seq (.seq (.drw [
 iT 53 (.mv (.l 0)),iT 54 (.mv (.l 5)),iT 55 (.ixs 6 (.t 53) (.t 54)),iT 56 (.fad 2 (.t 55)),iT 57 (.fad 2 (.t 56)),iT 58 (.ld false 1 (.t 57)),iT 59 (.mv (.l 1)),iT 60 (.call 40 [.t 59])] [
 iL 61 (.bin .neq (.t 58) (.t 60))]) (
 .cond (.l 61) (
 .seq (.reg [
 iL 4 (.mv (cI (-1)))]) (
 .ret)) (
 .skip))) (
 .seq (.reg [
 iT 62 (.mv (.l 1)),iT 63 (.bin .add (.t 62) (cI 1)),iL 1 (.mv (.t 63))]) (
 .seq (.reg [
 iT 64 (.mv (.l 0)),iT 65 (.mv (.l 5)),iT 66 (.ixs 6 (.t 64) (.t 65)),iT 67 (.fad 2 (.t 66)),iT 68 (.fad 3 (.t 67)),iT 69 (.ld false 1 (.t 68)),iT 70 (.mv (.l 1)),iT 71 (.call 79 [.t 69,.t 70]),iL 1 (.mv (.t 71))]) (
 .seq (.reg [
 iT 72 (.mv (.l 1)),iL 73 (.bin .lss (.t 72) (cI 0))]) (
 .cond (.l 73) (
 .seq (.reg [
 iL 4 (.mv (cI (-1)))]) (
 .ret)) (
 .skip))))))))))))))) (
 .reg [
 iT 10 (.mv (.l 5)),iT 11 (.bin .add (.t 10) (cI 1)),iL 5 (.mv (.t 11))])))))) (
 .seq (.reg [
 iT 74 (.mv (.l 1)),iL 4 (.mv (.t 74))]) (
 .ret)))
theorem mc42_eq:(Tryz.f42.body.map (compile lv42 Tryz.prog 75))=some mc42:=by kernel_rfl
def mr42:List MR:=[.t 4]
theorem mr42_eq:cRess lv42 Tryz.prog Tryz.f42.results.toList=some mr42:=by kernel_rfl
theorem call42:CallT Tryz.prog 42 75 mc42 mr42:=acall_mc (by kernel_rfl) Tryz.func42 mc42_eq Tryz.ntmps42 (by kernel_rfl) mr42_eq
/- laws.heldTyS -/
def lv79:List Nat:=[0,1,4,5,9,18,27,37,48]
def mc79:MC :=
.seq (.reg [
 iL 4 (.mv (cI 0))]) (
 .seq (.seq (.reg [
 iL 5 (.mv (cI 0))]) (
 .blk 0 (
 .loop (
 .seq (.seq (.reg [
 iT 6 (.mv (.l 5)),iT 7 (.mv (.l 0)),iT 8 (.len false (.t 7)),iL 9 (.bin .lss (.t 6) (.t 8))]) (
 .cond (.l 9) (
 .skip) (
 .exit 0))) (
 .seq (.blk 1 (
 .seq (.seq (.reg [
 iT 12 (.mv (.l 0)),iT 13 (.mv (.l 5)),iT 14 (.ixs 4 (.t 12) (.t 13)),iT 15 (.fad 0 (.t 14)),iT 16 (.ld false 1 (.t 15)),iT 17 (.mv (.l 1)),iL 18 (.bin .neq (.t 16) (.t 17))]) (
 .cond (.l 18) (
 .seq (.reg [
 iL 4 (.mv (cI (-1)))]) (
 .ret)) (
 .skip))) (
 .seq (.reg [
 iT 19 (.mv (.l 1)),iT 20 (.bin .add (.t 19) (cI 1)),iL 1 (.mv (.t 20))]) (
 .seq (.seq (.reg [
 iT 21 (.mv (.l 0)),iT 22 (.mv (.l 5)),iT 23 (.ixs 4 (.t 21) (.t 22)),iT 24 (.fad 1 (.t 23)),iT 25 (.ld false 1 (.t 24)),iT 26 (.mv (.l 1)),iL 27 (.bin .neq (.t 25) (.t 26))]) (
 .cond (.l 27) (
 .seq (.reg [
 iL 4 (.mv (cI (-1)))]) (
 .ret)) (
 .skip))) (
 .seq (.reg [
 iT 28 (.mv (.l 1)),iT 29 (.bin .add (.t 28) (cI 1)),iL 1 (.mv (.t 29))]) (
 .seq (.seq (.drw [
 iT 30 (.mv (.l 0)),iT 31 (.mv (.l 5)),iT 32 (.ixs 4 (.t 30) (.t 31)),iT 33 (.fad 2 (.t 32)),iT 34 (.ld false 1 (.t 33)),iT 35 (.mv (.l 1)),iT 36 (.call 40 [.t 35])] [
 iL 37 (.bin .neq (.t 34) (.t 36))]) (
 .cond (.l 37) (
 .seq (.reg [
 iL 4 (.mv (cI (-1)))]) (
 .ret)) (
 .skip))) (
 .seq (.reg [
 iT 38 (.mv (.l 1)),iT 39 (.bin .add (.t 38) (cI 1)),iL 1 (.mv (.t 39))]) (
 .seq (.reg [
 iT 40 (.mv (.l 0)),iT 41 (.mv (.l 5)),iT 42 (.ixs 4 (.t 40) (.t 41)),iT 43 (.fad 3 (.t 42)),iT 44 (.ld false 1 (.t 43)),iT 45 (.mv (.l 1)),iT 46 (.call 79 [.t 44,.t 45]),iL 1 (.mv (.t 46))]) (
 .seq (.reg [
 iT 47 (.mv (.l 1)),iL 48 (.bin .lss (.t 47) (cI 0))]) (
 .cond (.l 48) (
 .seq (.reg [
 iL 4 (.mv (cI (-1)))]) (
 .ret)) (
 .skip))))))))))) (
 .reg [
 iT 10 (.mv (.l 5)),iT 11 (.bin .add (.t 10) (cI 1)),iL 5 (.mv (.t 11))])))))) (
 .seq (.reg [
 iT 49 (.mv (.l 1)),iL 4 (.mv (.t 49))]) (
 .ret)))
theorem mc79_eq:(Tryz.f79.body.map (compile lv79 Tryz.prog 50))=some mc79:=by kernel_rfl
def mr79:List MR:=[.t 4]
theorem mr79_eq:cRess lv79 Tryz.prog Tryz.f79.results.toList=some mr79:=by kernel_rfl
theorem call79:CallT Tryz.prog 79 50 mc79 mr79:=acall_mc (by kernel_rfl) Tryz.func79 mc79_eq Tryz.ntmps79 (by kernel_rfl) mr79_eq
end Go.Proofs.YtnelfbcgplooiaaGreat.Mc
/- Trees of programs as plain data: their cells, sizes; what is right. -/
set_option linter.all false
namespace Go.Proofs.YtnelfbcgplooiaaGreat.Pg
open Go.AM
inductive TyE where
 | mk (kind:Int) (name:List UInt8) (pos:Int) (kids:List TyE)
inductive PatD where
 | mk (kind:Int) (name:List UInt8) (num pos:Int) (kids:List PatD)
mutual
inductive ExpD where
 | mk (kind:Int) (name:List UInt8) (num:Int) (text:List UInt8) (pos:Int) (kids:List ExpD) (arms:List ArmD)
inductive ArmD where
 | mk (pat:PatD) (exp:ExpD)
end
structure CtorD where
 name:List UInt8
 has:Bool
 arg:TyE
 pos:Int
structure DataD where
 name:List UInt8
 vars:List (List UInt8)
 ctors:List CtorD
 pos:Int
structure ProgD where
 types:List DataD
 body:ExpD
mutual
def TyE.cells:TyE→List PV
 | .mk k n p ks=>[.i .i64 k,.s n,.i .i64 p,.l (TyE.cellsL ks)]
def TyE.cellsL:List TyE→List (List PV)
 | []=>[]
 | t :: l=>t.cells :: TyE.cellsL l
end
mutual
def PatD.cells:PatD→List PV
 | .mk k n u p ks=>[.i .i64 k,.s n,.i .i64 u,.i .i64 p,.l (PatD.cellsL ks)]
def PatD.cellsL:List PatD→List (List PV)
 | []=>[]
 | t :: l=>t.cells :: PatD.cellsL l
end
mutual
def ExpD.cells:ExpD→List PV
 | .mk k n u t p ks as'=>[.i .i64 k,.s n,.i .i64 u,.s t,.i .i64 p,.l (ExpD.cellsL ks),.l (ExpD.cellsA as')]
def ExpD.cellsL:List ExpD→List (List PV)
 | []=>[]
 | t :: l=>t.cells :: ExpD.cellsL l
def ArmD.cells:ArmD→List PV
 | .mk p e=>p.cells++e.cells
def ExpD.cellsA:List ArmD→List (List PV)
 | []=>[]
 | t :: l=>t.cells :: ExpD.cellsA l
end
def CtorD.cells (c:CtorD):List PV:=[.s c.name,.b c.has]++c.arg.cells++[.i .i64 c.pos]
def namesC (l:List (List UInt8)):List (List PV):=l.map fun s=>[.s s]
def DataD.cells (d:DataD):List PV:=[.s d.name,.l (namesC d.vars),.l (d.ctors.map CtorD.cells),.i .i64 d.pos]
def ProgD.cells (p:ProgD):List PV:=.l (p.types.map DataD.cells) :: p.body.cells
mutual
def TyE.sz:TyE→Nat
 | .mk k n p ks=>n.length+TyE.szL ks
def TyE.szL:List TyE→Nat
 | []=>0
 | t :: l=>1+t.sz+TyE.szL l
end
mutual
def PatD.sz:PatD→Nat
 | .mk k n u p ks=>n.length+PatD.szL ks
def PatD.szL:List PatD→Nat
 | []=>0
 | t :: l=>1+t.sz+PatD.szL l
end
mutual
def ExpD.sz:ExpD→Nat
 | .mk k n u t p ks as'=>n.length+t.length+ExpD.szL ks+ExpD.szA as'
def ExpD.szL:List ExpD→Nat
 | []=>0
 | t :: l=>1+t.sz+ExpD.szL l
def ArmD.sz:ArmD→Nat
 | .mk p e=>p.sz+e.sz
def ExpD.szA:List ArmD→Nat
 | []=>0
 | t :: l=>1+t.sz+ExpD.szA l
end
def namesSz:List (List UInt8)→Nat
 | []=>0
 | s :: l=>1+s.length+namesSz l
def CtorD.sz (c:CtorD):Nat:=c.name.length+c.arg.sz
def ctorsSz:List CtorD→Nat
 | []=>0
 | s :: l=>1+s.sz+ctorsSz l
def DataD.sz (d:DataD):Nat:=d.name.length+namesSz d.vars+ctorsSz d.ctors
def datasSz:List DataD→Nat
 | []=>0
 | s :: l=>1+s.sz+datasSz l
def ProgD.sz (p:ProgD):Nat:=datasSz p.types+p.body.sz
theorem TyE.cellsL_eq (l:List TyE):TyE.cellsL l=l.map TyE.cells:=by
 induction l with
 | nil=>rfl
 | cons t l ih=>rw [TyE.cellsL,ih]; rfl
theorem PatD.cellsL_eq (l:List PatD):PatD.cellsL l=l.map PatD.cells:=by
 induction l with
 | nil=>rfl
 | cons t l ih=>rw [PatD.cellsL,ih]; rfl
theorem ExpD.cellsL_eq (l:List ExpD):ExpD.cellsL l=l.map ExpD.cells:=by
 induction l with
 | nil=>rfl
 | cons t l ih=>rw [ExpD.cellsL,ih]; rfl
theorem ExpD.cellsA_eq (l:List ArmD):ExpD.cellsA l=l.map ArmD.cells:=by
 induction l with
 | nil=>rfl
 | cons t l ih=>rw [ExpD.cellsA,ih]; rfl
/- sizes of lists -/
def sumSz {α:Type} (f:α→Nat):List α→Nat
 | []=>0
 | a :: l=>1+f a+sumSz f l
theorem sumSz_len {α:Type} (f:α→Nat) (l:List α):l.length≤sumSz f l:=by
 induction l with
 | nil=>simp
 | cons a l ih=>simp [sumSz]; omega
theorem sumSz_mem {α : Type} (f : α → Nat) {l : List α} {a : α} (h : a ∈ l) : f a < sumSz f l := by
  induction l with
  | nil => cases h
  | cons b l ih =>
    simp [sumSz]
    rcases List.mem_cons.1 h with rfl | h
    · omega
    · have := ih h; omega
theorem TyE.szL_eq (l):TyE.szL l=sumSz TyE.sz l:=by
 induction l with
 | nil=>rfl
 | cons t l ih=>rw [TyE.szL,ih]; rfl
theorem PatD.szL_eq (l):PatD.szL l=sumSz PatD.sz l:=by
 induction l with
 | nil=>rfl
 | cons t l ih=>rw [PatD.szL,ih]; rfl
theorem ExpD.szL_eq (l):ExpD.szL l=sumSz ExpD.sz l:=by
 induction l with
 | nil=>rfl
 | cons t l ih=>rw [ExpD.szL,ih]; rfl
theorem ExpD.szA_eq (l):ExpD.szA l=sumSz ArmD.sz l:=by
 induction l with
 | nil=>rfl
 | cons t l ih=>rw [ExpD.szA,ih]; rfl
theorem namesSz_eq (l):namesSz l=sumSz List.length l:=by
 induction l with
 | nil=>rfl
 | cons t l ih=>rw [namesSz,ih]; rfl
theorem ctorsSz_eq (l):ctorsSz l=sumSz CtorD.sz l:=by
 induction l with
 | nil=>rfl
 | cons t l ih=>rw [ctorsSz,ih]; rfl
theorem datasSz_eq (l):datasSz l=sumSz DataD.sz l:=by
 induction l with
 | nil=>rfl
 | cons t l ih=>rw [datasSz,ih]; rfl
end Go.Proofs.YtnelfbcgplooiaaGreat.Pg
/- What is right of a tree; what is told of its names. -/
set_option linter.all false
namespace Go.Proofs.YtnelfbcgplooiaaGreat.Pg
open Go.AM
def isSmallB (c:UInt8):Bool:=decide (97≤c.toNat) && decide (c.toNat≤122)
def isGreatB (c:UInt8):Bool:=decide (65≤c.toNat) && decide (c.toNat≤90)
def isDigitB (c:UInt8):Bool:=decide (48≤c.toNat) && decide (c.toNat≤57)
def nameB (c:UInt8):Bool:=isSmallB c || (isGreatB c || (isDigitB c || decide (c.toNat=95)))
def firstB (g:Bool):List UInt8→Bool
 | []=>false
 | c :: _=>if g then isGreatB c else isSmallB c
def isNameD (g:Bool) (s:List UInt8):Bool:=(decide (1≤s.length) && decide (s.length≤12)) && (firstB g s && s.all nameB)
def keyL:List (List UInt8):=[[116,121,112,101],[111,102],[108,101,116],[114,101,99],[105,110],[102,117,110],[105,102],[116,104,101,110],[101,108,115,101],[109,97,116,99,104],[119,105,116,104],[101,110,100],[116,114,117,101],[102,97,108,115,101],[114,101,102],[114,101,97,100],[112,114,105,110,116],[101,120,105,116],[115,105,122,101]]
def lowD (s:List UInt8):Bool:=isNameD false s && !decide (s∈keyL)
def plainB (c:UInt8):Bool:=(decide (32≤c.toNat) && decide (c.toNat≤126)) || decide (c.toNat=10)
def plainD (s:List UInt8):Bool:=s.all plainB
def opL:List (List UInt8):=[[43],[45],[42],[94],[61],[60],[58,61]]
def arity (s:List UInt8):Int:=if s=[114,101,97,100] then 0 else if s=[112,114,105,110,116]∨s=[101,120,105,116]∨s=[115,105,122,101]∨s=[114,101,102]∨s=[33] then 1 else -1
def fourL:List (List UInt8):=[[105,110,116],[98,111,111,108],[117,110,105,116],[115,116,114]]
def patHead (k:Int) (n:List UInt8) (u p:Int) (nk:Nat):Bool :=
 decide (0≤p) &&
 (if k=1∨k=5 then decide (nk=0) && (decide (n=[]) && decide (u=0))
 else if k=2 then decide (nk=0) && (lowD n && decide (u=0))
 else if k=3 then decide (nk=0) && (decide (n=[]) && decide (0≤u))
 else if k=4 then decide (nk=0) && (decide (n=[]) && decide (0≤u∧u≤1))
 else if k=6 then decide (2≤nk) && (decide (n=[]) && decide (u=0))
 else if k=7 then decide (nk≤1) && (isNameD true n && decide (u=0))
 else false)
mutual
def PatD.ok:PatD→Bool
 | .mk k n u p ks=>patHead k n u p ks.length && PatD.okL ks
def PatD.okL:List PatD→Bool
 | []=>true
 | t :: l=>t.ok && PatD.okL l
end
def expHead (k:Int) (n:List UInt8) (u:Int) (t:List UInt8) (p:Int) (nk na:Nat):Bool :=
 (decide (0≤p) && (decide (k=13) == decide (0<na))) &&
 (if k=1 then decide (nk=0) && (decide (n=[]) && (decide (0≤u) && decide (t=[])))
 else if k=2 then decide (nk=0) && (decide (n=[]) && (decide (u=0) && plainD t))
 else if k=3 then decide (nk=0) && (decide (n=[]) && (decide (0≤u∧u≤1) && decide (t=[])))
 else if k=4 then decide (nk=0) && (decide (n=[]) && (decide (u=0) && decide (t=[])))
 else if k=5 then decide (nk=0) && (lowD n && (decide (u=0) && decide (t=[])))
 else if k=6 then decide (nk≤1) && (isNameD true n && (decide (u=0) && decide (t=[])))
 else if k=7 then decide (2≤nk) && (decide (n=[]) && (decide (u=0) && decide (t=[])))
 else if k=8 then decide (nk=1) && (lowD n && (decide (u=0) && decide (t=[])))
 else if k=9 then decide (nk=2) && (decide (n=[]) && (decide (u=0) && decide (t=[])))
 else if k=10 then decide (nk=2) && (lowD n && (decide (u=0) && decide (t=[])))
 else if k=11 then decide (nk=2) && (lowD n && (decide (u=0) && lowD t))
 else if k=12 then decide (nk=3) && (decide (n=[]) && (decide (u=0) && decide (t=[])))
 else if k=13 then decide (nk=1) && (decide (n=[]) && (decide (u=0) && decide (t=[])))
 else if k=14 then decide (nk=2) && (decide (n∈opL) && (decide (u=0) && decide (t=[])))
 else if k=15 then decide ((nk:Int)=arity n) && (decide (u=0) && decide (t=[]))
 else false)
mutual
def ExpD.ok:ExpD→Bool
 | .mk k n u t p ks as'=>expHead k n u t p ks.length as'.length && (ExpD.okL ks && ExpD.okA as')
def ExpD.okL:List ExpD→Bool
 | []=>true
 | t :: l=>t.ok && ExpD.okL l
def ArmD.ok:ArmD→Bool
 | .mk p e=>p.ok && e.ok
def ExpD.okA:List ArmD→Bool
 | []=>true
 | t :: l=>t.ok && ExpD.okA l
end
def typeHead (k:Int) (n:List UInt8) (p:Int) (nk:Nat):Bool :=
 decide (0≤p) &&
 (if k=1 then lowD n
 else if k=2 then decide (nk=0) && isNameD false n
 else if k=3 then decide (nk=2) && decide (n=[])
 else if k=4 then decide (2≤nk) && decide (n=[])
 else if k=5 then decide (nk=1) && decide (n=[])
 else false)
mutual
def TyE.ok:TyE→Bool
 | .mk k n p ks=>typeHead k n p ks.length && TyE.okL ks
def TyE.okL:List TyE→Bool
 | []=>true
 | t :: l=>t.ok && TyE.okL l
end
def TyE.none:TyE→Bool
 | .mk k n p ks=>decide (k=0) && (decide (n=[]) && (decide (p=0) && decide (ks.length=0)))
def CtorD.ok (c:CtorD):Bool:=isNameD true c.name && (decide (0≤c.pos) && (if c.has then c.arg.ok else c.arg.none))
def DataD.ok (d:DataD):Bool:=d.ctors.all CtorD.ok && (lowD d.name && (decide (0≤d.pos) && (decide (0<d.ctors.length) && d.vars.all (isNameD false))))
def ProgD.ok (p:ProgD):Bool:=p.types.all DataD.ok && p.body.ok
/- types, tables -/
inductive TyD where
 | mk (kind n:Int) (name:List UInt8) (kids:List TyD)
mutual
def TyD.cells:TyD→List PV
 | .mk k n nm ks=>[.i .i64 k,.i .i64 n,.s nm,.l (TyD.cellsL ks)]
def TyD.cellsL:List TyD→List (List PV)
 | []=>[]
 | t :: l=>t.cells :: TyD.cellsL l
end
theorem TyD.cellsL_eq (l:List TyD):TyD.cellsL l=l.map TyD.cells:=by
 induction l with
 | nil=>rfl
 | cons t l ih=>rw [TyD.cellsL,ih]; rfl
def tyZ:TyD:=.mk 0 0 [] []
structure InfoC where
 name:List UInt8
 has:Bool
 arg:TyD
structure InfoD where
 name:List UInt8
 vars:Int
 ctors:List InfoC
def InfoC.cells (c:InfoC):List PV:=[.s c.name,.b c.has]++c.arg.cells
def InfoD.cells (d:InfoD):List PV:=[.s d.name,.i .i64 d.vars,.l (d.ctors.map InfoC.cells)]
def idx (s:List UInt8):List (List UInt8)→Option Nat
 | []=>.none
 | a :: l=>if a=s then some 0 else (idx s l).map (·+1)
def idxI (l:List (List UInt8)) (s:List UInt8):Int:=match idx s l with | .none=>-1 | some k=>k
theorem idx_none {s : List UInt8} {l : List (List UInt8)} : idx s l = .none ↔ s ∉ l := by
  induction l with
  | nil => simp [idx]
  | cons a l ih =>
    simp only [idx]
    by_cases h : a = s
    · simp [h]
    · simp [h, ih, Ne.symm h]
theorem idx_some {s : List UInt8} {l : List (List UInt8)} {k : Nat} (h : idx s l = some k) : l[k]? = some s ∧ ∀ j, j < k → l[j]? ≠ some s := by
  induction l generalizing k with
  | nil => cases h
  | cons a l ih =>
    simp only [idx] at h
    by_cases ha : a = s
    · rw [if_pos ha] at h
      cases h
      exact ⟨by simp [ha], fun j hj => by omega⟩
    · rw [if_neg ha] at h
      cases hi : idx s l with
      | none => rw [hi] at h; cases h
      | some k' =>
        rw [hi] at h
        cases h
        obtain ⟨h1, h2⟩ := ih hi
        refine ⟨by simpa using h1, fun j hj => ?_⟩
        cases j with
        | zero => simpa using ha
        | succ j => simpa using h2 j (by simp only at hj; omega)
abbrev Ft:=Int × Int
def Ft.cells (f:Ft):List PV:=[.i .i64 f.1,.i .i64 f.2]
def firstF (a b:Ft):Ft:=if a.1=0 then b else a
theorem firstF_z (b:Ft):firstF (0,0) b=b:=by simp [firstF]
theorem firstF_ne {a b:Ft} (h:a.1≠0):firstF a b=a:=by simp [firstF,h]
theorem firstF_assoc (a b c:Ft):firstF (firstF a b) c=firstF a (firstF b c):=by
 unfold firstF; by_cases h:a.1=0 <;> simp [h]
mutual
def TyE.ty (vars : List (List UInt8)) : TyE → TyD
  | .mk k n p ks =>
    if k = 2 then .mk 10 (idxI vars n) [] []
    else if k = 3 then .mk 5 0 [] (TyE.tyL vars ks)
    else if k = 4 then .mk 6 0 [] (TyE.tyL vars ks)
    else if k = 5 then .mk 8 0 [] (TyE.tyL vars ks)
    else match idx n fourL, ks with
      | some j, [] => .mk (1 + j) 0 [] []
      | _, _ => .mk 7 0 n (TyE.tyL vars ks)
def TyE.tyL (vars:List (List UInt8)):List TyE→List TyD
 | []=>[]
 | t :: l=>t.ty vars :: TyE.tyL vars l
end
def hasData (types:List DataD) (n:List UInt8) (nk:Nat):Bool:=types.any fun y=>decide (y.name=n) && decide (y.vars.length=nk)
mutual
def TyE.ft (types : List DataD) (vars : List (List UInt8)) : TyE → Ft
  | .mk k n p ks =>
    if k = 2 then (if idx n vars = .none then (25, p) else (0, 0))
    else if k = 3 ∨ k = 4 ∨ k = 5 then TyE.ftL types vars ks
    else if n ∈ fourL ∧ ks.length = 0 then (0, 0)
    else if hasData types n ks.length then TyE.ftL types vars ks else (24, p)
def TyE.ftL (types:List DataD) (vars:List (List UInt8)):List TyE→Ft
 | []=>(0,0)
 | t :: l=>firstF (t.ft types vars) (TyE.ftL types vars l)
end
def manyF (i : Nat) : List DataD → Ft
  | [] => (0, 0)
  | d :: l => if i = 12 then (26, d.pos) else match d.ctors[16]? with
    | some c => (26, c.pos)
    | .none => manyF (i + 1) l
def typesF (ahead:List DataD):List DataD→Ft
 | []=>(0,0)
 | d :: l=>if (ahead.any fun x=>decide (x.name=d.name))=true∨d.name∈fourL then (21,d.pos) else typesF (ahead++[d]) l
def varsF (pos:Int) (ahead:List (List UInt8)):List (List UInt8)→Ft
 | []=>(0,0)
 | v :: l=>if v∈ahead then (22,pos) else varsF pos (ahead++[v]) l
def ctorsF (types:List DataD) (vars:List (List UInt8)) (seen:List (List UInt8)):List CtorD→Ft
 | []=>(0,0)
 | c :: l=>firstF (if c.name∈seen then (23,c.pos) else (0,0)) (firstF (if c.has then c.arg.ft types vars else (0,0)) (ctorsF types vars (seen++[c.name]) l))
def dataF (types:List DataD) (seen:List (List UInt8)) (d:DataD):Ft:=firstF (varsF d.pos [] d.vars) (ctorsF types d.vars seen d.ctors)
def datasF (types:List DataD) (seen:List (List UInt8)):List DataD→Ft
 | []=>(0,0)
 | d :: l=>firstF (dataF types seen d) (datasF types (seen++d.ctors.map CtorD.name) l)
def tableF (types:List DataD):Ft:=firstF (manyF 0 types) (firstF (typesF [] types) (datasF types [] types))
def CtorD.info (vars:List (List UInt8)) (c:CtorD):InfoC:=⟨c.name,c.has,if c.has then c.arg.ty vars else tyZ⟩
def DataD.info (d:DataD):InfoD:=⟨d.name,d.vars.length,d.ctors.map (CtorD.info d.vars)⟩
def tableV (types:List DataD):List InfoD:=types.map DataD.info
/- scope -/
def findK (s:List UInt8):List InfoC→Option Nat
 | []=>.none
 | c :: l=>if c.name=s then some 0 else (findK s l).map (·+1)
def findC (s : List UInt8) : List InfoD → Option (Nat × Nat × Bool)
  | [] => .none
  | d :: l => match findK s d.ctors with
    | some k => some (0, k, ((d.ctors[k]?).map InfoC.has).getD false)
    | .none => (findC s l).map fun x => (x.1 + 1, x.2)
def ctorF (infos:List InfoD) (n:List UInt8) (nk:Nat) (p:Int):Ft:=match findC n infos with
 | .none=>(28,p)
 | some x=>if x.2.2=decide (0<nk) then (0,0) else (29,p)
mutual
def PatD.bound:PatD→List (List UInt8)
 | .mk k n u p ks=>(if k=2 then [n] else [])++PatD.boundL ks
def PatD.boundL:List PatD→List (List UInt8)
 | []=>[]
 | t :: l=>t.bound++PatD.boundL l
end
mutual
def PatD.ft (infos:List InfoD) (names:List (List UInt8)):PatD→Ft
 | .mk k n u p ks=>firstF (if k=2 then (if n∈names then (30,p) else (0,0)) else if k=7 then ctorF infos n ks.length p else (0,0)) (PatD.ftL infos (names++(if k=2 then [n] else [])) ks)
def PatD.ftL (infos:List InfoD) (names:List (List UInt8)):List PatD→Ft
 | []=>(0,0)
 | t :: l=>firstF (t.ft infos names) (PatD.ftL infos (names++t.bound) l)
end
def bindsD (k:Int) (n t:List UInt8) (i:Nat):List (List UInt8) :=
 if k=8∨(k=10∧i=1)∨(k=11∧i=1) then [n] else if k=11 then [n,t] else []
mutual
def ExpD.ft (infos:List InfoD) (env:List (List UInt8)):ExpD→Ft
 | .mk k n u t p ks as'=>firstF (if k=5 then (if n∈env then (0,0) else (27,p)) else if k=6 then ctorF infos n ks.length p else (0,0)) (firstF (ExpD.ftL infos env k n t 0 ks) (ExpD.ftA infos env as'))
def ExpD.ftL (infos:List InfoD) (env:List (List UInt8)) (k:Int) (n t:List UInt8) (i:Nat):List ExpD→Ft
 | []=>(0,0)
 | e :: l=>firstF (e.ft infos (env++bindsD k n t i)) (ExpD.ftL infos env k n t (i+1) l)
def ArmD.ft (infos:List InfoD) (env:List (List UInt8)):ArmD→Ft
 | .mk p e=>firstF (p.ft infos []) (e.ft infos (env++p.bound))
def ExpD.ftA (infos:List InfoD) (env:List (List UInt8)):List ArmD→Ft
 | []=>(0,0)
 | a :: l=>firstF (a.ft infos env) (ExpD.ftA infos env l)
end
end Go.Proofs.YtnelfbcgplooiaaGreat.Pg
/- Sizes of trees, as the laws take them. -/
set_option linter.all false
namespace Go.Proofs.YtnelfbcgplooiaaGreat.Pg
open Go.AM Mc
theorem wr64 {n:Int} (h1:-9223372036854775808≤n) (h2:n≤9223372036854775807):wr .i64 n=n:=by
 simp [wr,IntKind.wrap,IntKind.bits,IntKind.signed]
 omega
theorem wrN (x:Nat) (h:x≤4611686018427387904):wr .i64 ((x:Int)+1)=((x+1:Nat):Int):=by rw [wr64 (by omega) (by omega)]; omega
theorem maxLe:maxL=140737488355328:=rfl
abbrev av (cs:List PV):AV:=.st (cs.map .p)
def szR (left:Int) (k:Nat):Int:=if (k:Int)≤left then left - k else -1
theorem szR_le {left:Int} {k:Nat} (h:(k:Int)≤left):szR left k=left - k:=by simp [szR,h]
theorem szR_gt {left:Int} {k:Nat} (h:¬ (k:Int)≤left):szR left k = -1:=by simp [szR,h]
def sumS {α:Type} (f:α→Nat):List α→Nat
 | []=>0
 | a :: l=>f a+sumS f l
theorem sumS_take {α : Type} (f : α → Nat) {l : List α} {i : Nat} (h : i < l.length) : sumS f (l.take (i + 1)) = sumS f (l.take i) + f l[i] := by
  induction l generalizing i with
  | nil => simp at h
  | cons a l ih =>
    cases i with
    | zero => simp [sumS]
    | succ i => simp [sumS] at h ⊢; rw [ih h]; omega
theorem sumS_le {α : Type} (f : α → Nat) (l : List α) (i : Nat) : sumS f (l.take i) ≤ sumS f l := by
  induction l generalizing i with
  | nil => simp
  | cons a l ih =>
    cases i with
    | zero => simp [sumS]
    | succ i => simp [sumS]; exact ih i
theorem sumSz_S {α:Type} (f:α→Nat) (l:List α):sumSz f l=l.length+sumS f l:=by
 induction l with
 | nil=>rfl
 | cons a l ih=>simp [sumSz,sumS,ih]; omega
theorem takeN_all {cs:List AV} {n:Nat} (h:cs.length=n):takeN n cs=some cs:=by
 have:=takeN_app' (a:=cs) (b:=[]) h
 simpa using this
theorem TyE.cells_len (t:TyE):t.cells.length=4:=by cases t; rfl
theorem PatD.cells_len (t:PatD):t.cells.length=5:=by cases t; rfl
theorem ExpD.cells_len (t:ExpD):t.cells.length=7:=by cases t; rfl
theorem ArmD.cells_len (t:ArmD):t.cells.length=12:=by
 cases t; rw [ArmD.cells,List.length_append,PatD.cells_len,ExpD.cells_len]
theorem CtorD.cells_len (t:CtorD):t.cells.length=7:=by
 simp [CtorD.cells,TyE.cells_len]
theorem DataD.cells_len (t:DataD):t.cells.length=4:=rfl
def SzC (f:Nat) (x:AV) (k:Nat):Prop:=∀ (left:Int),0≤left→left≤1048576→∀ H,ACall Tryz.prog f [x,.p (.i .i64 left)] H (pureQ (.p (.i .i64 (szR left k))) H)
theorem szL_TypeExp {l:List TyE} (he:∀ a∈l,SzC 140 (av (TyE.cells a)) (TyE.sz a)):SzC 150 (.p (.l (l.map TyE.cells))) (sumSz TyE.sz l):=by
 intro left h0 h1 H
 have hsz:=sumSz_S TyE.sz l
 refine call150 (by simp) ?_
 simp only [go_sem,reduceIte,↓reduceIte,sevalprocAttr,Z0,Z1,bytesOf,mc150,mr150,List.length_map]
 intro hlen
 rw [maxLe] at hlen
 have ew:wr .i64 (left - (l.length:Int))=left - (l.length:Int):=wr64 (by omega) (by omega)
 by_cases hl:(l.length:Int)≤left
 ·have d1:decide (left - (l.length:Int)<0)=false:=by simp; omega
  simp only [go_sem,reduceIte,↓reduceIte,sevalprocAttr,Z0,Z1,bytesOf,ew,d1]
  refine ⟨Nat,[0,1,5],fun x st=>(x≤l.length∧(l.length+sumS TyE.sz (l.take x):Int)≤left)∧st=⟨[(0,.p (.l (l.map TyE.cells))),(1,.p (.i .i64 (left - (l.length+sumS TyE.sz (l.take x))))),(5,.p (.i .i64 x))],[],H⟩,fun x=>l.length - x,⟨0,?_⟩,?_⟩
  ·simp only [go_sem,reduceIte,↓reduceIte,sevalprocAttr,Z0,Z1,bytesOf,List.take_zero,sumS]
   exact ⟨⟨by omega,by omega⟩,by simp⟩
  ·rintro x _ ⟨⟨hx,hs⟩,rfl⟩
   by_cases hlt:x<l.length
   ·have d2:decide ((x:Int)<(l.length:Int))=true:=by simp; omega
    have hg:(l.map TyE.cells)[x]?=some (TyE.cells l[x]):=by simp [hlt]
    have ht:=sumS_take TyE.sz hlt
    have hle:=sumS_le TyE.sz l (x+1)
    have et:takeN 4 (List.map AV.p (TyE.cells l[x]))=some (List.map AV.p (TyE.cells l[x])):=takeN_all (by rw [List.length_map,TyE.cells_len])
    have ex:=wrN x (by omega)
    simp only [go_sem,reduceIte,↓reduceIte,sevalprocAttr,Z0,Z1,bytesOf,List.length_map,d2,hg,et,TyE.cells_len]
    intro _
    refine acall_pure (he l[x] (List.getElem_mem hlt) _ (by omega) (by omega) _) ?_
    by_cases hk:((TyE.sz l[x]:Nat):Int)≤left - (l.length+sumS TyE.sz (l.take x))
    ·have d3:decide (left - (l.length+sumS TyE.sz (l.take x)) - (TyE.sz l[x]:Nat)<0)=false:=by simp; omega
     simp only [go_sem,reduceIte,↓reduceIte,sevalprocAttr,Z0,Z1,bytesOf,szR_le hk,d3,ex]
     exact ⟨x+1,⟨⟨by omega,by rw [ht]; omega⟩,by rw [ht]; simp; omega⟩,by omega⟩
    ·simp only [go_sem,reduceIte,↓reduceIte,sevalprocAttr,Z0,Z1,bytesOf,szR_gt hk]
     rw [szR_gt (by omega)]
     exact ⟨rfl,rfl⟩
   ·have hx2:x=l.length:=by omega
    subst hx2
    have d2:decide ((l.length:Int)<(l.length:Int))=false:=by simp
    simp only [go_sem,reduceIte,↓reduceIte,sevalprocAttr,Z0,Z1,bytesOf,List.length_map,d2]
    rw [List.take_length] at hs ⊢
    intro _
    rw [szR_le (by omega)]
    refine ⟨?_,rfl⟩
    congr 2
    omega
 ·have d1:decide (left - (l.length:Int)<0)=true:=by simp; omega
  simp only [go_sem,reduceIte,↓reduceIte,sevalprocAttr,Z0,Z1,bytesOf,ew,d1]
  rw [szR_gt (by omega)]
  exact ⟨rfl,rfl⟩
theorem szL_Pat {l:List PatD} (he:∀ a∈l,SzC 114 (av (PatD.cells a)) (PatD.sz a)):SzC 141 (.p (.l (l.map PatD.cells))) (sumSz PatD.sz l):=by
 intro left h0 h1 H
 have hsz:=sumSz_S PatD.sz l
 refine call141 (by simp) ?_
 simp only [go_sem,reduceIte,↓reduceIte,sevalprocAttr,Z0,Z1,bytesOf,mc141,mr141,List.length_map]
 intro hlen
 rw [maxLe] at hlen
 have ew:wr .i64 (left - (l.length:Int))=left - (l.length:Int):=wr64 (by omega) (by omega)
 by_cases hl:(l.length:Int)≤left
 ·have d1:decide (left - (l.length:Int)<0)=false:=by simp; omega
  simp only [go_sem,reduceIte,↓reduceIte,sevalprocAttr,Z0,Z1,bytesOf,ew,d1]
  refine ⟨Nat,[0,1,5],fun x st=>(x≤l.length∧(l.length+sumS PatD.sz (l.take x):Int)≤left)∧st=⟨[(0,.p (.l (l.map PatD.cells))),(1,.p (.i .i64 (left - (l.length+sumS PatD.sz (l.take x))))),(5,.p (.i .i64 x))],[],H⟩,fun x=>l.length - x,⟨0,?_⟩,?_⟩
  ·simp only [go_sem,reduceIte,↓reduceIte,sevalprocAttr,Z0,Z1,bytesOf,List.take_zero,sumS]
   exact ⟨⟨by omega,by omega⟩,by simp⟩
  ·rintro x _ ⟨⟨hx,hs⟩,rfl⟩
   by_cases hlt:x<l.length
   ·have d2:decide ((x:Int)<(l.length:Int))=true:=by simp; omega
    have hg:(l.map PatD.cells)[x]?=some (PatD.cells l[x]):=by simp [hlt]
    have ht:=sumS_take PatD.sz hlt
    have hle:=sumS_le PatD.sz l (x+1)
    have et:takeN 5 (List.map AV.p (PatD.cells l[x]))=some (List.map AV.p (PatD.cells l[x])):=takeN_all (by rw [List.length_map,PatD.cells_len])
    have ex:=wrN x (by omega)
    simp only [go_sem,reduceIte,↓reduceIte,sevalprocAttr,Z0,Z1,bytesOf,List.length_map,d2,hg,et,PatD.cells_len]
    intro _
    refine acall_pure (he l[x] (List.getElem_mem hlt) _ (by omega) (by omega) _) ?_
    by_cases hk:((PatD.sz l[x]:Nat):Int)≤left - (l.length+sumS PatD.sz (l.take x))
    ·have d3:decide (left - (l.length+sumS PatD.sz (l.take x)) - (PatD.sz l[x]:Nat)<0)=false:=by simp; omega
     simp only [go_sem,reduceIte,↓reduceIte,sevalprocAttr,Z0,Z1,bytesOf,szR_le hk,d3,ex]
     exact ⟨x+1,⟨⟨by omega,by rw [ht]; omega⟩,by rw [ht]; simp; omega⟩,by omega⟩
    ·simp only [go_sem,reduceIte,↓reduceIte,sevalprocAttr,Z0,Z1,bytesOf,szR_gt hk]
     rw [szR_gt (by omega)]
     exact ⟨rfl,rfl⟩
   ·have hx2:x=l.length:=by omega
    subst hx2
    have d2:decide ((l.length:Int)<(l.length:Int))=false:=by simp
    simp only [go_sem,reduceIte,↓reduceIte,sevalprocAttr,Z0,Z1,bytesOf,List.length_map,d2]
    rw [List.take_length] at hs ⊢
    intro _
    rw [szR_le (by omega)]
    refine ⟨?_,rfl⟩
    congr 2
    omega
 ·have d1:decide (left - (l.length:Int)<0)=true:=by simp; omega
  simp only [go_sem,reduceIte,↓reduceIte,sevalprocAttr,Z0,Z1,bytesOf,ew,d1]
  rw [szR_gt (by omega)]
  exact ⟨rfl,rfl⟩
theorem szL_Exp {l:List ExpD} (he:∀ a∈l,SzC 18 (av (ExpD.cells a)) (ExpD.sz a)):SzC 44 (.p (.l (l.map ExpD.cells))) (sumSz ExpD.sz l):=by
 intro left h0 h1 H
 have hsz:=sumSz_S ExpD.sz l
 refine call44 (by simp) ?_
 simp only [go_sem,reduceIte,↓reduceIte,sevalprocAttr,Z0,Z1,bytesOf,mc44,mr44,List.length_map]
 intro hlen
 rw [maxLe] at hlen
 have ew:wr .i64 (left - (l.length:Int))=left - (l.length:Int):=wr64 (by omega) (by omega)
 by_cases hl:(l.length:Int)≤left
 ·have d1:decide (left - (l.length:Int)<0)=false:=by simp; omega
  simp only [go_sem,reduceIte,↓reduceIte,sevalprocAttr,Z0,Z1,bytesOf,ew,d1]
  refine ⟨Nat,[0,1,5],fun x st=>(x≤l.length∧(l.length+sumS ExpD.sz (l.take x):Int)≤left)∧st=⟨[(0,.p (.l (l.map ExpD.cells))),(1,.p (.i .i64 (left - (l.length+sumS ExpD.sz (l.take x))))),(5,.p (.i .i64 x))],[],H⟩,fun x=>l.length - x,⟨0,?_⟩,?_⟩
  ·simp only [go_sem,reduceIte,↓reduceIte,sevalprocAttr,Z0,Z1,bytesOf,List.take_zero,sumS]
   exact ⟨⟨by omega,by omega⟩,by simp⟩
  ·rintro x _ ⟨⟨hx,hs⟩,rfl⟩
   by_cases hlt:x<l.length
   ·have d2:decide ((x:Int)<(l.length:Int))=true:=by simp; omega
    have hg:(l.map ExpD.cells)[x]?=some (ExpD.cells l[x]):=by simp [hlt]
    have ht:=sumS_take ExpD.sz hlt
    have hle:=sumS_le ExpD.sz l (x+1)
    have et:takeN 7 (List.map AV.p (ExpD.cells l[x]))=some (List.map AV.p (ExpD.cells l[x])):=takeN_all (by rw [List.length_map,ExpD.cells_len])
    have ex:=wrN x (by omega)
    simp only [go_sem,reduceIte,↓reduceIte,sevalprocAttr,Z0,Z1,bytesOf,List.length_map,d2,hg,et,ExpD.cells_len]
    intro _
    refine acall_pure (he l[x] (List.getElem_mem hlt) _ (by omega) (by omega) _) ?_
    by_cases hk:((ExpD.sz l[x]:Nat):Int)≤left - (l.length+sumS ExpD.sz (l.take x))
    ·have d3:decide (left - (l.length+sumS ExpD.sz (l.take x)) - (ExpD.sz l[x]:Nat)<0)=false:=by simp; omega
     simp only [go_sem,reduceIte,↓reduceIte,sevalprocAttr,Z0,Z1,bytesOf,szR_le hk,d3,ex]
     exact ⟨x+1,⟨⟨by omega,by rw [ht]; omega⟩,by rw [ht]; simp; omega⟩,by omega⟩
    ·simp only [go_sem,reduceIte,↓reduceIte,sevalprocAttr,Z0,Z1,bytesOf,szR_gt hk]
     rw [szR_gt (by omega)]
     exact ⟨rfl,rfl⟩
   ·have hx2:x=l.length:=by omega
    subst hx2
    have d2:decide ((l.length:Int)<(l.length:Int))=false:=by simp
    simp only [go_sem,reduceIte,↓reduceIte,sevalprocAttr,Z0,Z1,bytesOf,List.length_map,d2]
    rw [List.take_length] at hs ⊢
    intro _
    rw [szR_le (by omega)]
    refine ⟨?_,rfl⟩
    congr 2
    omega
 ·have d1:decide (left - (l.length:Int)<0)=true:=by simp; omega
  simp only [go_sem,reduceIte,↓reduceIte,sevalprocAttr,Z0,Z1,bytesOf,ew,d1]
  rw [szR_gt (by omega)]
  exact ⟨rfl,rfl⟩
theorem szL_Arm {l:List ArmD} (he:∀ a∈l,SzC 82 (av (ArmD.cells a)) (ArmD.sz a)):SzC 45 (.p (.l (l.map ArmD.cells))) (sumSz ArmD.sz l):=by
 intro left h0 h1 H
 have hsz:=sumSz_S ArmD.sz l
 refine call45 (by simp) ?_
 simp only [go_sem,reduceIte,↓reduceIte,sevalprocAttr,Z0,Z1,bytesOf,mc45,mr45,List.length_map]
 intro hlen
 rw [maxLe] at hlen
 have ew:wr .i64 (left - (l.length:Int))=left - (l.length:Int):=wr64 (by omega) (by omega)
 by_cases hl:(l.length:Int)≤left
 ·have d1:decide (left - (l.length:Int)<0)=false:=by simp; omega
  simp only [go_sem,reduceIte,↓reduceIte,sevalprocAttr,Z0,Z1,bytesOf,ew,d1]
  refine ⟨Nat,[0,1,5],fun x st=>(x≤l.length∧(l.length+sumS ArmD.sz (l.take x):Int)≤left)∧st=⟨[(0,.p (.l (l.map ArmD.cells))),(1,.p (.i .i64 (left - (l.length+sumS ArmD.sz (l.take x))))),(5,.p (.i .i64 x))],[],H⟩,fun x=>l.length - x,⟨0,?_⟩,?_⟩
  ·simp only [go_sem,reduceIte,↓reduceIte,sevalprocAttr,Z0,Z1,bytesOf,List.take_zero,sumS]
   exact ⟨⟨by omega,by omega⟩,by simp⟩
  ·rintro x _ ⟨⟨hx,hs⟩,rfl⟩
   by_cases hlt:x<l.length
   ·have d2:decide ((x:Int)<(l.length:Int))=true:=by simp; omega
    have hg:(l.map ArmD.cells)[x]?=some (ArmD.cells l[x]):=by simp [hlt]
    have ht:=sumS_take ArmD.sz hlt
    have hle:=sumS_le ArmD.sz l (x+1)
    have et:takeN 12 (List.map AV.p (ArmD.cells l[x]))=some (List.map AV.p (ArmD.cells l[x])):=takeN_all (by rw [List.length_map,ArmD.cells_len])
    have ex:=wrN x (by omega)
    simp only [go_sem,reduceIte,↓reduceIte,sevalprocAttr,Z0,Z1,bytesOf,List.length_map,d2,hg,et,ArmD.cells_len]
    intro _
    refine acall_pure (he l[x] (List.getElem_mem hlt) _ (by omega) (by omega) _) ?_
    by_cases hk:((ArmD.sz l[x]:Nat):Int)≤left - (l.length+sumS ArmD.sz (l.take x))
    ·have d3:decide (left - (l.length+sumS ArmD.sz (l.take x)) - (ArmD.sz l[x]:Nat)<0)=false:=by simp; omega
     simp only [go_sem,reduceIte,↓reduceIte,sevalprocAttr,Z0,Z1,bytesOf,szR_le hk,d3,ex]
     exact ⟨x+1,⟨⟨by omega,by rw [ht]; omega⟩,by rw [ht]; simp; omega⟩,by omega⟩
    ·simp only [go_sem,reduceIte,↓reduceIte,sevalprocAttr,Z0,Z1,bytesOf,szR_gt hk]
     rw [szR_gt (by omega)]
     exact ⟨rfl,rfl⟩
   ·have hx2:x=l.length:=by omega
    subst hx2
    have d2:decide ((l.length:Int)<(l.length:Int))=false:=by simp
    simp only [go_sem,reduceIte,↓reduceIte,sevalprocAttr,Z0,Z1,bytesOf,List.length_map,d2]
    rw [List.take_length] at hs ⊢
    intro _
    rw [szR_le (by omega)]
    refine ⟨?_,rfl⟩
    congr 2
    omega
 ·have d1:decide (left - (l.length:Int)<0)=true:=by simp; omega
  simp only [go_sem,reduceIte,↓reduceIte,sevalprocAttr,Z0,Z1,bytesOf,ew,d1]
  rw [szR_gt (by omega)]
  exact ⟨rfl,rfl⟩
theorem szL_Ctor {l:List CtorD} (he:∀ a∈l,SzC 113 (av (CtorD.cells a)) (CtorD.sz a)):SzC 81 (.p (.l (l.map CtorD.cells))) (sumSz CtorD.sz l):=by
 intro left h0 h1 H
 have hsz:=sumSz_S CtorD.sz l
 refine call81 (by simp) ?_
 simp only [go_sem,reduceIte,↓reduceIte,sevalprocAttr,Z0,Z1,bytesOf,mc81,mr81,List.length_map]
 intro hlen
 rw [maxLe] at hlen
 have ew:wr .i64 (left - (l.length:Int))=left - (l.length:Int):=wr64 (by omega) (by omega)
 by_cases hl:(l.length:Int)≤left
 ·have d1:decide (left - (l.length:Int)<0)=false:=by simp; omega
  simp only [go_sem,reduceIte,↓reduceIte,sevalprocAttr,Z0,Z1,bytesOf,ew,d1]
  refine ⟨Nat,[0,1,5],fun x st=>(x≤l.length∧(l.length+sumS CtorD.sz (l.take x):Int)≤left)∧st=⟨[(0,.p (.l (l.map CtorD.cells))),(1,.p (.i .i64 (left - (l.length+sumS CtorD.sz (l.take x))))),(5,.p (.i .i64 x))],[],H⟩,fun x=>l.length - x,⟨0,?_⟩,?_⟩
  ·simp only [go_sem,reduceIte,↓reduceIte,sevalprocAttr,Z0,Z1,bytesOf,List.take_zero,sumS]
   exact ⟨⟨by omega,by omega⟩,by simp⟩
  ·rintro x _ ⟨⟨hx,hs⟩,rfl⟩
   by_cases hlt:x<l.length
   ·have d2:decide ((x:Int)<(l.length:Int))=true:=by simp; omega
    have hg:(l.map CtorD.cells)[x]?=some (CtorD.cells l[x]):=by simp [hlt]
    have ht:=sumS_take CtorD.sz hlt
    have hle:=sumS_le CtorD.sz l (x+1)
    have et:takeN 7 (List.map AV.p (CtorD.cells l[x]))=some (List.map AV.p (CtorD.cells l[x])):=takeN_all (by rw [List.length_map,CtorD.cells_len])
    have ex:=wrN x (by omega)
    simp only [go_sem,reduceIte,↓reduceIte,sevalprocAttr,Z0,Z1,bytesOf,List.length_map,d2,hg,et,CtorD.cells_len]
    intro _
    refine acall_pure (he l[x] (List.getElem_mem hlt) _ (by omega) (by omega) _) ?_
    by_cases hk:((CtorD.sz l[x]:Nat):Int)≤left - (l.length+sumS CtorD.sz (l.take x))
    ·have d3:decide (left - (l.length+sumS CtorD.sz (l.take x)) - (CtorD.sz l[x]:Nat)<0)=false:=by simp; omega
     simp only [go_sem,reduceIte,↓reduceIte,sevalprocAttr,Z0,Z1,bytesOf,szR_le hk,d3,ex]
     exact ⟨x+1,⟨⟨by omega,by rw [ht]; omega⟩,by rw [ht]; simp; omega⟩,by omega⟩
    ·simp only [go_sem,reduceIte,↓reduceIte,sevalprocAttr,Z0,Z1,bytesOf,szR_gt hk]
     rw [szR_gt (by omega)]
     exact ⟨rfl,rfl⟩
   ·have hx2:x=l.length:=by omega
    subst hx2
    have d2:decide ((l.length:Int)<(l.length:Int))=false:=by simp
    simp only [go_sem,reduceIte,↓reduceIte,sevalprocAttr,Z0,Z1,bytesOf,List.length_map,d2]
    rw [List.take_length] at hs ⊢
    intro _
    rw [szR_le (by omega)]
    refine ⟨?_,rfl⟩
    congr 2
    omega
 ·have d1:decide (left - (l.length:Int)<0)=true:=by simp; omega
  simp only [go_sem,reduceIte,↓reduceIte,sevalprocAttr,Z0,Z1,bytesOf,ew,d1]
  rw [szR_gt (by omega)]
  exact ⟨rfl,rfl⟩
theorem szL_Data {l:List DataD} (he:∀ a∈l,SzC 43 (av (DataD.cells a)) (DataD.sz a)):SzC 17 (.p (.l (l.map DataD.cells))) (sumSz DataD.sz l):=by
 intro left h0 h1 H
 have hsz:=sumSz_S DataD.sz l
 refine call17 (by simp) ?_
 simp only [go_sem,reduceIte,↓reduceIte,sevalprocAttr,Z0,Z1,bytesOf,mc17,mr17,List.length_map]
 intro hlen
 rw [maxLe] at hlen
 have ew:wr .i64 (left - (l.length:Int))=left - (l.length:Int):=wr64 (by omega) (by omega)
 by_cases hl:(l.length:Int)≤left
 ·have d1:decide (left - (l.length:Int)<0)=false:=by simp; omega
  simp only [go_sem,reduceIte,↓reduceIte,sevalprocAttr,Z0,Z1,bytesOf,ew,d1]
  refine ⟨Nat,[0,1,5],fun x st=>(x≤l.length∧(l.length+sumS DataD.sz (l.take x):Int)≤left)∧st=⟨[(0,.p (.l (l.map DataD.cells))),(1,.p (.i .i64 (left - (l.length+sumS DataD.sz (l.take x))))),(5,.p (.i .i64 x))],[],H⟩,fun x=>l.length - x,⟨0,?_⟩,?_⟩
  ·simp only [go_sem,reduceIte,↓reduceIte,sevalprocAttr,Z0,Z1,bytesOf,List.take_zero,sumS]
   exact ⟨⟨by omega,by omega⟩,by simp⟩
  ·rintro x _ ⟨⟨hx,hs⟩,rfl⟩
   by_cases hlt:x<l.length
   ·have d2:decide ((x:Int)<(l.length:Int))=true:=by simp; omega
    have hg:(l.map DataD.cells)[x]?=some (DataD.cells l[x]):=by simp [hlt]
    have ht:=sumS_take DataD.sz hlt
    have hle:=sumS_le DataD.sz l (x+1)
    have et:takeN 4 (List.map AV.p (DataD.cells l[x]))=some (List.map AV.p (DataD.cells l[x])):=takeN_all (by rw [List.length_map,DataD.cells_len])
    have ex:=wrN x (by omega)
    simp only [go_sem,reduceIte,↓reduceIte,sevalprocAttr,Z0,Z1,bytesOf,List.length_map,d2,hg,et,DataD.cells_len]
    intro _
    refine acall_pure (he l[x] (List.getElem_mem hlt) _ (by omega) (by omega) _) ?_
    by_cases hk:((DataD.sz l[x]:Nat):Int)≤left - (l.length+sumS DataD.sz (l.take x))
    ·have d3:decide (left - (l.length+sumS DataD.sz (l.take x)) - (DataD.sz l[x]:Nat)<0)=false:=by simp; omega
     simp only [go_sem,reduceIte,↓reduceIte,sevalprocAttr,Z0,Z1,bytesOf,szR_le hk,d3,ex]
     exact ⟨x+1,⟨⟨by omega,by rw [ht]; omega⟩,by rw [ht]; simp; omega⟩,by omega⟩
    ·simp only [go_sem,reduceIte,↓reduceIte,sevalprocAttr,Z0,Z1,bytesOf,szR_gt hk]
     rw [szR_gt (by omega)]
     exact ⟨rfl,rfl⟩
   ·have hx2:x=l.length:=by omega
    subst hx2
    have d2:decide ((l.length:Int)<(l.length:Int))=false:=by simp
    simp only [go_sem,reduceIte,↓reduceIte,sevalprocAttr,Z0,Z1,bytesOf,List.length_map,d2]
    rw [List.take_length] at hs ⊢
    intro _
    rw [szR_le (by omega)]
    refine ⟨?_,rfl⟩
    congr 2
    omega
 ·have d1:decide (left - (l.length:Int)<0)=true:=by simp; omega
  simp only [go_sem,reduceIte,↓reduceIte,sevalprocAttr,Z0,Z1,bytesOf,ew,d1]
  rw [szR_gt (by omega)]
  exact ⟨rfl,rfl⟩
theorem szL_String {l:List (List UInt8)}:SzC 80 (.p (.l (namesC l))) (sumSz List.length l):=by
 intro left h0 h1 H
 have hsz:=sumSz_S List.length l
 refine call80 (by simp) ?_
 simp only [go_sem,reduceIte,↓reduceIte,sevalprocAttr,Z0,Z1,bytesOf,mc80,mr80,namesC,List.length_map]
 intro hlen
 rw [maxLe] at hlen
 have ew:wr .i64 (left - (l.length:Int))=left - (l.length:Int):=wr64 (by omega) (by omega)
 by_cases hl:(l.length:Int)≤left
 ·have d1:decide (left - (l.length:Int)<0)=false:=by simp; omega
  simp only [go_sem,reduceIte,↓reduceIte,sevalprocAttr,Z0,Z1,bytesOf,ew,d1]
  refine ⟨Nat,[0,1,5],fun x st=>(x≤l.length∧(l.length+sumS List.length (l.take x):Int)≤left)∧st=⟨[(0,.p (.l (l.map fun s=>[.s s]))),(1,.p (.i .i64 (left - (l.length+sumS List.length (l.take x))))),(5,.p (.i .i64 x))],[],H⟩,fun x=>l.length - x,⟨0,?_⟩,?_⟩
  ·simp only [go_sem,reduceIte,↓reduceIte,sevalprocAttr,Z0,Z1,bytesOf,List.take_zero,sumS]
   exact ⟨⟨by omega,by omega⟩,by simp⟩
  ·rintro x _ ⟨⟨hx,hs⟩,rfl⟩
   by_cases hlt:x<l.length
   ·have d2:decide ((x:Int)<(l.length:Int))=true:=by simp; omega
    have hg:(l.map fun s=>[PV.s s])[x]?=some [.s l[x]]:=by simp [hlt]
    have ht:=sumS_take List.length hlt
    have hle:=sumS_le List.length l (x+1)
    have ex:=wrN x (by omega)
    simp only [go_sem,reduceIte,↓reduceIte,sevalprocAttr,Z0,Z1,bytesOf,List.length_map,d2,hg]
    intro hn hn2
    rw [maxLe] at hn hn2
    have ew2:wr .i64 (left - (l.length+sumS List.length (l.take x)) - (l[x].length:Int))=left - (l.length+sumS List.length (l.take x)) - (l[x].length:Int):=wr64 (by omega) (by omega)
    by_cases hk:(l[x].length:Int)≤left - (l.length+sumS List.length (l.take x))
    ·have d3:decide (left - (l.length+sumS List.length (l.take x)) - (l[x].length:Int)<0)=false:=by simp; omega
     simp only [go_sem,reduceIte,↓reduceIte,sevalprocAttr,Z0,Z1,bytesOf,ew2,d3,ex]
     exact ⟨x+1,⟨⟨by omega,by rw [ht]; omega⟩,by rw [ht]; simp; omega⟩,by omega⟩
    ·have d3:decide (left - (l.length+sumS List.length (l.take x)) - (l[x].length:Int)<0)=true:=by simp; omega
     simp only [go_sem,reduceIte,↓reduceIte,sevalprocAttr,Z0,Z1,bytesOf,ew2,d3]
     rw [szR_gt (by omega)]
     exact ⟨rfl,rfl⟩
   ·have hx2:x=l.length:=by omega
    subst hx2
    have d2:decide ((l.length:Int)<(l.length:Int))=false:=by simp
    simp only [go_sem,reduceIte,↓reduceIte,sevalprocAttr,Z0,Z1,bytesOf,List.length_map,d2]
    rw [List.take_length] at hs ⊢
    intro _
    rw [szR_le (by omega)]
    refine ⟨?_,rfl⟩
    congr 2
    omega
 ·have d1:decide (left - (l.length:Int)<0)=true:=by simp; omega
  simp only [go_sem,reduceIte,↓reduceIte,sevalprocAttr,Z0,Z1,bytesOf,ew,d1]
  rw [szR_gt (by omega)]
  exact ⟨rfl,rfl⟩
theorem sz_TypeExp (k:Int) (n:List UInt8) (p:Int) (ks:List TyE) (hk:SzC 150 (.p (.l (ks.map TyE.cells))) (sumSz TyE.sz ks)):SzC 140 (av (TyE.cells (TyE.mk k n p ks))) (TyE.sz (TyE.mk k n p ks)):=by
 intro left h0 h1 H
 have hz:TyE.sz (TyE.mk k n p ks)=n.length+sumSz TyE.sz ks:=by rw [TyE.sz,TyE.szL_eq]
 rw [hz]
 refine acall_drop1 ?_ (tf_p _)
 refine call140 (by simp) ?_
 simp only [go_sem,reduceIte,↓reduceIte,sevalprocAttr,Z0,Z1,bytesOf,mc140,mr140,TyE.cells,TyE.cellsL_eq]
 intro hqn
 rw [maxLe] at hqn
 have ewn:wr .i64 (left - (n.length:Int))=left - (n.length:Int):=wr64 (by omega) (by omega)
 by_cases hln:(n.length:Int)≤left
 ·have d1:decide (left - (n.length:Int)<0)=false:=by simp; omega
  simp only [go_sem,reduceIte,↓reduceIte,sevalprocAttr,Z0,Z1,bytesOf,ewn,d1]
  refine acall_pure (hk _ (by omega) (by omega) _) ?_
  by_cases hhk':((sumSz TyE.sz ks:Nat):Int)≤left - (n.length:Int)
  ·have d1:decide (left - (n.length:Int) - ((sumSz TyE.sz ks:Nat):Int)<0)=false:=by simp; omega
   simp only [go_sem,reduceIte,↓reduceIte,sevalprocAttr,Z0,Z1,bytesOf,szR_le hhk',d1]
   rw [szR_le (by omega)]
   refine ⟨?_,_,rfl⟩
   congr 2
   omega
  ·simp only [go_sem,reduceIte,↓reduceIte,sevalprocAttr,Z0,Z1,bytesOf,szR_gt hhk']
   rw [szR_gt (by omega)]
   exact ⟨rfl,_,rfl⟩
 ·have d1:decide (left - (n.length:Int)<0)=true:=by simp; omega
  simp only [go_sem,reduceIte,↓reduceIte,sevalprocAttr,Z0,Z1,bytesOf,ewn,d1]
  rw [szR_gt (by omega)]
  exact ⟨rfl,_,rfl⟩
theorem sz_Pat (k:Int) (n:List UInt8) (u p:Int) (ks:List PatD) (hk:SzC 141 (.p (.l (ks.map PatD.cells))) (sumSz PatD.sz ks)):SzC 114 (av (PatD.cells (PatD.mk k n u p ks))) (PatD.sz (PatD.mk k n u p ks)):=by
 intro left h0 h1 H
 have hz:PatD.sz (PatD.mk k n u p ks)=n.length+sumSz PatD.sz ks:=by rw [PatD.sz,PatD.szL_eq]
 rw [hz]
 refine acall_drop1 ?_ (tf_p _)
 refine call114 (by simp) ?_
 simp only [go_sem,reduceIte,↓reduceIte,sevalprocAttr,Z0,Z1,bytesOf,mc114,mr114,PatD.cells,PatD.cellsL_eq]
 intro hqn
 rw [maxLe] at hqn
 have ewn:wr .i64 (left - (n.length:Int))=left - (n.length:Int):=wr64 (by omega) (by omega)
 by_cases hln:(n.length:Int)≤left
 ·have d1:decide (left - (n.length:Int)<0)=false:=by simp; omega
  simp only [go_sem,reduceIte,↓reduceIte,sevalprocAttr,Z0,Z1,bytesOf,ewn,d1]
  refine acall_pure (hk _ (by omega) (by omega) _) ?_
  by_cases hhk':((sumSz PatD.sz ks:Nat):Int)≤left - (n.length:Int)
  ·have d1:decide (left - (n.length:Int) - ((sumSz PatD.sz ks:Nat):Int)<0)=false:=by simp; omega
   simp only [go_sem,reduceIte,↓reduceIte,sevalprocAttr,Z0,Z1,bytesOf,szR_le hhk',d1]
   rw [szR_le (by omega)]
   refine ⟨?_,_,rfl⟩
   congr 2
   omega
  ·simp only [go_sem,reduceIte,↓reduceIte,sevalprocAttr,Z0,Z1,bytesOf,szR_gt hhk']
   rw [szR_gt (by omega)]
   exact ⟨rfl,_,rfl⟩
 ·have d1:decide (left - (n.length:Int)<0)=true:=by simp; omega
  simp only [go_sem,reduceIte,↓reduceIte,sevalprocAttr,Z0,Z1,bytesOf,ewn,d1]
  rw [szR_gt (by omega)]
  exact ⟨rfl,_,rfl⟩
theorem sz_Exp (k:Int) (n:List UInt8) (u:Int) (t:List UInt8) (p:Int) (ks:List ExpD) (as':List ArmD) (hk:SzC 44 (.p (.l (ks.map ExpD.cells))) (sumSz ExpD.sz ks)) (ha:SzC 45 (.p (.l (as'.map ArmD.cells))) (sumSz ArmD.sz as')):SzC 18 (av (ExpD.cells (ExpD.mk k n u t p ks as'))) (ExpD.sz (ExpD.mk k n u t p ks as')):=by
 intro left h0 h1 H
 have hz:ExpD.sz (ExpD.mk k n u t p ks as')=n.length+t.length+sumSz ExpD.sz ks+sumSz ArmD.sz as':=by rw [ExpD.sz,ExpD.szL_eq,ExpD.szA_eq]
 rw [hz]
 refine acall_drop1 ?_ (tf_p _)
 refine call18 (by simp) ?_
 simp only [go_sem,reduceIte,↓reduceIte,sevalprocAttr,Z0,Z1,bytesOf,mc18,mr18,ExpD.cells,ExpD.cellsL_eq,ExpD.cellsA_eq]
 intro hqn
 rw [maxLe] at hqn
 have ewn:wr .i64 (left - (n.length:Int))=left - (n.length:Int):=wr64 (by omega) (by omega)
 by_cases hln:(n.length:Int)≤left
 ·have d1:decide (left - (n.length:Int)<0)=false:=by simp; omega
  simp only [go_sem,reduceIte,↓reduceIte,sevalprocAttr,Z0,Z1,bytesOf,ewn,d1]
  intro hqt
  rw [maxLe] at hqt
  have ewt:wr .i64 (left - (n.length:Int) - (t.length:Int))=left - (n.length:Int) - (t.length:Int):=wr64 (by omega) (by omega)
  by_cases hlt:(t.length:Int)≤left - (n.length:Int)
  ·have d1:decide (left - (n.length:Int) - (t.length:Int)<0)=false:=by simp; omega
   simp only [go_sem,reduceIte,↓reduceIte,sevalprocAttr,Z0,Z1,bytesOf,ewt,d1]
   refine acall_pure (hk _ (by omega) (by omega) _) ?_
   by_cases hhk':((sumSz ExpD.sz ks:Nat):Int)≤left - (n.length:Int) - (t.length:Int)
   ·have d1:decide (left - (n.length:Int) - (t.length:Int) - ((sumSz ExpD.sz ks:Nat):Int)<0)=false:=by simp; omega
    simp only [go_sem,reduceIte,↓reduceIte,sevalprocAttr,Z0,Z1,bytesOf,szR_le hhk',d1]
    refine acall_pure (ha _ (by omega) (by omega) _) ?_
    by_cases hha':((sumSz ArmD.sz as':Nat):Int)≤left - (n.length:Int) - (t.length:Int) - ((sumSz ExpD.sz ks:Nat):Int)
    ·have d1:decide (left - (n.length:Int) - (t.length:Int) - ((sumSz ExpD.sz ks:Nat):Int) - ((sumSz ArmD.sz as':Nat):Int)<0)=false:=by simp; omega
     simp only [go_sem,reduceIte,↓reduceIte,sevalprocAttr,Z0,Z1,bytesOf,szR_le hha',d1]
     rw [szR_le (by omega)]
     refine ⟨?_,_,rfl⟩
     congr 2
     omega
    ·simp only [go_sem,reduceIte,↓reduceIte,sevalprocAttr,Z0,Z1,bytesOf,szR_gt hha']
     rw [szR_gt (by omega)]
     exact ⟨rfl,_,rfl⟩
   ·simp only [go_sem,reduceIte,↓reduceIte,sevalprocAttr,Z0,Z1,bytesOf,szR_gt hhk']
    rw [szR_gt (by omega)]
    exact ⟨rfl,_,rfl⟩
  ·have d1:decide (left - (n.length:Int) - (t.length:Int)<0)=true:=by simp; omega
   simp only [go_sem,reduceIte,↓reduceIte,sevalprocAttr,Z0,Z1,bytesOf,ewt,d1]
   rw [szR_gt (by omega)]
   exact ⟨rfl,_,rfl⟩
 ·have d1:decide (left - (n.length:Int)<0)=true:=by simp; omega
  simp only [go_sem,reduceIte,↓reduceIte,sevalprocAttr,Z0,Z1,bytesOf,ewn,d1]
  rw [szR_gt (by omega)]
  exact ⟨rfl,_,rfl⟩
theorem sz_Arm {p:PatD} {e:ExpD} (hp:SzC 114 (av p.cells) p.sz) (he:SzC 18 (av e.cells) e.sz):SzC 82 (av (ArmD.cells (ArmD.mk p e))) (ArmD.sz (ArmD.mk p e)):=by
 intro left h0 h1 H
 have hz:ArmD.sz (ArmD.mk p e)=p.sz+e.sz:=by rw [ArmD.sz]
 rw [hz]
 obtain ⟨pk,pn,pu,pp,pks⟩:=p
 obtain ⟨ek,en,eu,et,ep,eks,eas⟩:=e
 refine acall_drop1 ?_ (tf_p _)
 refine call82 (by simp) ?_
 simp only [go_sem,reduceIte,↓reduceIte,sevalprocAttr,Z0,Z1,bytesOf,mc82,mr82,ArmD.cells,PatD.cells,ExpD.cells]
 refine acall_pure (hp _ (by omega) (by omega) _) ?_
 by_cases hhp':((PatD.sz (PatD.mk pk pn pu pp pks):Nat):Int)≤left
 ·have d1:decide (left - ((PatD.sz (PatD.mk pk pn pu pp pks):Nat):Int)<0)=false:=by simp; omega
  simp only [go_sem,reduceIte,↓reduceIte,sevalprocAttr,Z0,Z1,bytesOf,szR_le hhp',d1]
  refine acall_pure (he _ (by omega) (by omega) _) ?_
  by_cases hhe':((ExpD.sz (ExpD.mk ek en eu et ep eks eas):Nat):Int)≤left - ((PatD.sz (PatD.mk pk pn pu pp pks):Nat):Int)
  ·have d1:decide (left - ((PatD.sz (PatD.mk pk pn pu pp pks):Nat):Int) - ((ExpD.sz (ExpD.mk ek en eu et ep eks eas):Nat):Int)<0)=false:=by simp; omega
   simp only [go_sem,reduceIte,↓reduceIte,sevalprocAttr,Z0,Z1,bytesOf,szR_le hhe',d1]
   rw [szR_le (by omega)]
   refine ⟨?_,_,rfl⟩
   congr 2
   omega
  ·simp only [go_sem,reduceIte,↓reduceIte,sevalprocAttr,Z0,Z1,bytesOf,szR_gt hhe']
   rw [szR_gt (by omega)]
   exact ⟨rfl,_,rfl⟩
 ·simp only [go_sem,reduceIte,↓reduceIte,sevalprocAttr,Z0,Z1,bytesOf,szR_gt hhp']
  rw [szR_gt (by omega)]
  exact ⟨rfl,_,rfl⟩
theorem sz_Ctor {c:CtorD} (ht:SzC 140 (av c.arg.cells) c.arg.sz):SzC 113 (av (CtorD.cells (c))) (CtorD.sz (c)):=by
 intro left h0 h1 H
 have hz:CtorD.sz (c)=c.name.length+c.arg.sz:=rfl
 rw [hz]
 obtain ⟨cn,ch,⟨ak,an,ap,aks⟩,cp⟩:=c
 refine acall_drop1 ?_ (tf_p _)
 refine call113 (by simp) ?_
 simp only [go_sem,reduceIte,↓reduceIte,sevalprocAttr,Z0,Z1,bytesOf,mc113,mr113,CtorD.cells,TyE.cells]
 intro hqcn
 rw [maxLe] at hqcn
 have ewcn:wr .i64 (left - (cn.length:Int))=left - (cn.length:Int):=wr64 (by omega) (by omega)
 by_cases hlcn:(cn.length:Int)≤left
 ·have d1:decide (left - (cn.length:Int)<0)=false:=by simp; omega
  simp only [go_sem,reduceIte,↓reduceIte,sevalprocAttr,Z0,Z1,bytesOf,ewcn,d1]
  refine acall_pure (ht _ (by omega) (by omega) _) ?_
  by_cases hht':((TyE.sz (TyE.mk ak an ap aks):Nat):Int)≤left - (cn.length:Int)
  ·have d1:decide (left - (cn.length:Int) - ((TyE.sz (TyE.mk ak an ap aks):Nat):Int)<0)=false:=by simp; omega
   simp only [go_sem,reduceIte,↓reduceIte,sevalprocAttr,Z0,Z1,bytesOf,szR_le hht',d1]
   rw [szR_le (by omega)]
   refine ⟨?_,_,rfl⟩
   congr 2
   omega
  ·simp only [go_sem,reduceIte,↓reduceIte,sevalprocAttr,Z0,Z1,bytesOf,szR_gt hht']
   rw [szR_gt (by omega)]
   exact ⟨rfl,_,rfl⟩
 ·have d1:decide (left - (cn.length:Int)<0)=true:=by simp; omega
  simp only [go_sem,reduceIte,↓reduceIte,sevalprocAttr,Z0,Z1,bytesOf,ewcn,d1]
  rw [szR_gt (by omega)]
  exact ⟨rfl,_,rfl⟩
theorem sz_Data {d:DataD} (hv:SzC 80 (.p (.l (namesC d.vars))) (sumSz List.length d.vars)) (hc:SzC 81 (.p (.l (d.ctors.map CtorD.cells))) (sumSz CtorD.sz d.ctors)):SzC 43 (av (DataD.cells (d))) (DataD.sz (d)):=by
 intro left h0 h1 H
 have hz:DataD.sz (d)=d.name.length+sumSz List.length d.vars+sumSz CtorD.sz d.ctors:=by rw [DataD.sz,namesSz_eq,ctorsSz_eq]
 rw [hz]
 obtain ⟨dn,dv,dc,dp⟩:=d
 refine acall_drop1 ?_ (tf_p _)
 refine call43 (by simp) ?_
 simp only [go_sem,reduceIte,↓reduceIte,sevalprocAttr,Z0,Z1,bytesOf,mc43,mr43,DataD.cells]
 intro hqdn
 rw [maxLe] at hqdn
 have ewdn:wr .i64 (left - (dn.length:Int))=left - (dn.length:Int):=wr64 (by omega) (by omega)
 by_cases hldn:(dn.length:Int)≤left
 ·have d1:decide (left - (dn.length:Int)<0)=false:=by simp; omega
  simp only [go_sem,reduceIte,↓reduceIte,sevalprocAttr,Z0,Z1,bytesOf,ewdn,d1]
  refine acall_pure (hv _ (by omega) (by omega) _) ?_
  by_cases hhv':((sumSz List.length dv:Nat):Int)≤left - (dn.length:Int)
  ·have d1:decide (left - (dn.length:Int) - ((sumSz List.length dv:Nat):Int)<0)=false:=by simp; omega
   simp only [go_sem,reduceIte,↓reduceIte,sevalprocAttr,Z0,Z1,bytesOf,szR_le hhv',d1]
   refine acall_pure (hc _ (by omega) (by omega) _) ?_
   by_cases hhc':((sumSz CtorD.sz dc:Nat):Int)≤left - (dn.length:Int) - ((sumSz List.length dv:Nat):Int)
   ·have d1:decide (left - (dn.length:Int) - ((sumSz List.length dv:Nat):Int) - ((sumSz CtorD.sz dc:Nat):Int)<0)=false:=by simp; omega
    simp only [go_sem,reduceIte,↓reduceIte,sevalprocAttr,Z0,Z1,bytesOf,szR_le hhc',d1]
    rw [szR_le (by omega)]
    refine ⟨?_,_,rfl⟩
    congr 2
    omega
   ·simp only [go_sem,reduceIte,↓reduceIte,sevalprocAttr,Z0,Z1,bytesOf,szR_gt hhc']
    rw [szR_gt (by omega)]
    exact ⟨rfl,_,rfl⟩
  ·simp only [go_sem,reduceIte,↓reduceIte,sevalprocAttr,Z0,Z1,bytesOf,szR_gt hhv']
   rw [szR_gt (by omega)]
   exact ⟨rfl,_,rfl⟩
 ·have d1:decide (left - (dn.length:Int)<0)=true:=by simp; omega
  simp only [go_sem,reduceIte,↓reduceIte,sevalprocAttr,Z0,Z1,bytesOf,ewdn,d1]
  rw [szR_gt (by omega)]
  exact ⟨rfl,_,rfl⟩
theorem sz_Prog {g:ProgD} (hd:SzC 17 (.p (.l (g.types.map DataD.cells))) (sumSz DataD.sz g.types)) (he:SzC 18 (av g.body.cells) g.body.sz):SzC 5 (av (ProgD.cells (g))) (ProgD.sz (g)):=by
 intro left h0 h1 H
 have hz:ProgD.sz (g)=sumSz DataD.sz g.types+g.body.sz:=by rw [ProgD.sz,datasSz_eq]
 rw [hz]
 obtain ⟨gt,⟨ek,en,eu,et,ep,eks,eas⟩⟩:=g
 refine acall_drop1 ?_ (tf_p _)
 refine call5 (by simp) ?_
 simp only [go_sem,reduceIte,↓reduceIte,sevalprocAttr,Z0,Z1,bytesOf,mc5,mr5,ProgD.cells,ExpD.cells]
 refine acall_pure (hd _ (by omega) (by omega) _) ?_
 by_cases hhd':((sumSz DataD.sz gt:Nat):Int)≤left
 ·have d1:decide (left - ((sumSz DataD.sz gt:Nat):Int)<0)=false:=by simp; omega
  simp only [go_sem,reduceIte,↓reduceIte,sevalprocAttr,Z0,Z1,bytesOf,szR_le hhd',d1]
  refine acall_pure (he _ (by omega) (by omega) _) ?_
  by_cases hhe':((ExpD.sz (ExpD.mk ek en eu et ep eks eas):Nat):Int)≤left - ((sumSz DataD.sz gt:Nat):Int)
  ·have d1:decide (left - ((sumSz DataD.sz gt:Nat):Int) - ((ExpD.sz (ExpD.mk ek en eu et ep eks eas):Nat):Int)<0)=false:=by simp; omega
   simp only [go_sem,reduceIte,↓reduceIte,sevalprocAttr,Z0,Z1,bytesOf,szR_le hhe',d1]
   rw [szR_le (by omega)]
   refine ⟨?_,_,rfl⟩
   congr 2
   omega
  ·simp only [go_sem,reduceIte,↓reduceIte,sevalprocAttr,Z0,Z1,bytesOf,szR_gt hhe']
   rw [szR_gt (by omega)]
   exact ⟨rfl,_,rfl⟩
 ·simp only [go_sem,reduceIte,↓reduceIte,sevalprocAttr,Z0,Z1,bytesOf,szR_gt hhd']
  rw [szR_gt (by omega)]
  exact ⟨rfl,_,rfl⟩
/- all trees -/
theorem szTy : ∀ (m : Nat) (t : TyE), t.sz < m → SzC 140 (av t.cells) t.sz := by
  intro m
  induction m with
  | zero => intro t h; omega
  | succ m ih =>
    intro t h
    obtain ⟨k, n, p, ks⟩ := t
    rw [TyE.sz, TyE.szL_eq] at h
    exact sz_TypeExp _ _ _ _ (szL_TypeExp fun a ha => ih a (by have := sumSz_mem TyE.sz ha; omega))
theorem szPatA : ∀ (m : Nat) (t : PatD), t.sz < m → SzC 114 (av t.cells) t.sz := by
  intro m
  induction m with
  | zero => intro t h; omega
  | succ m ih =>
    intro t h
    obtain ⟨k, n, u, p, ks⟩ := t
    rw [PatD.sz, PatD.szL_eq] at h
    exact sz_Pat _ _ _ _ _ (szL_Pat fun a ha => ih a (by have := sumSz_mem PatD.sz ha; omega))
theorem szExpA : ∀ (m : Nat) (t : ExpD), t.sz < m → SzC 18 (av t.cells) t.sz := by
  intro m
  induction m with
  | zero => intro t h; omega
  | succ m ih =>
    intro t h
    obtain ⟨k, n, u, x, p, ks, as'⟩ := t
    rw [ExpD.sz, ExpD.szL_eq, ExpD.szA_eq] at h
    refine sz_Exp _ _ _ _ _ _ _ (szL_Exp fun a ha => ih a (by have := sumSz_mem ExpD.sz ha; omega)) (szL_Arm fun a ha => ?_)
    have hm := sumSz_mem ArmD.sz ha
    obtain ⟨q, e⟩ := a
    rw [ArmD.sz] at hm
    exact sz_Arm (szPatA _ q (Nat.lt_succ_self _)) (ih e (by omega))
theorem szProgC (g:ProgD):SzC 5 (av g.cells) g.sz :=
 sz_Prog (szL_Data fun d _=>sz_Data szL_String (szL_Ctor fun c _=>sz_Ctor (szTy _ _ (Nat.lt_succ_self _)))) (szExpA _ _ (Nat.lt_succ_self _))
end Go.Proofs.YtnelfbcgplooiaaGreat.Pg
/- Copies of trees, as the laws make them: never written again, they are the trees. -/
set_option linter.all false
namespace Go.Proofs.YtnelfbcgplooiaaGreat.Pg
open Go.AM Mc
def fill {α:Type} (f:α→List AV) (z:List AV) (zs:List α) (i:Nat):List (List AV):=(zs.take i).map f++List.replicate (zs.length - i) z
theorem lent_rows {l:List (List PV)} {H:List AO} {id ver sz:Nat} (hid:H[id]?=some (.rows sz ver (l.map fun y=>y.map .p))) (hl:∀ y∈l,y.length=sz):Lent H (.gs id ver 0 l.length) (.p (.l l)):=by
 refine .gs _ _ _ _ sz _ _ hid (by simp) rfl hl ?_
 intro i r y j c q hr hy hc hq
 rw [Nat.zero_add,List.getElem?_map,hy] at hr
 cases hr
 rw [List.getElem?_map,hq] at hc
 cases hc
 exact .pure q
theorem tf_av (cs:List PV):Tf (av cs):=tf_st _ (by intro c hc; obtain ⟨p,_,rfl⟩:=List.mem_map.1 hc; exact tf_p p)
/- all trees -/
theorem sumSz_bound {α:Type} {f:α→Nat} {l:List α} {m:Nat} (h:sumSz f l≤m):l.length≤m:=Nat.le_trans (sumSz_len f l) h
end Go.Proofs.YtnelfbcgplooiaaGreat.Pg
/- Trees against themselves, as the laws compare them. -/
set_option linter.all false
namespace Go.Proofs.YtnelfbcgplooiaaGreat.Pg
open Go.AM Mc
def EqC (f:Nat) (x:AV):Prop:=∀ H,ACall Tryz.prog f [x,x] H (pureQ (.p (.b true)) H)
theorem eqL_TypeExp {l:List TyE} (he:∀ a∈l,EqC 144 (av (TyE.cells a))):EqC 152 (.p (.l (l.map TyE.cells))):=by
 intro H
 refine call152 (by simp) ?_
 have d0:decide ((l.length:Int)=(l.length:Int))=true:=by simp
 simp only [go_sem,reduceIte,↓reduceIte,sevalprocAttr,Z0,Z1,bytesOf,mc152,mr152,List.length_map,d0]
 intro hm hm2
 rw [maxLe] at hm
 refine ⟨Nat,[0,1,4,5],fun i st=>i≤l.length∧st=⟨[(0,.p (.l (l.map TyE.cells))),(1,.p (.l (l.map TyE.cells))),(4,.p (.b false)),(5,.p (.i .i64 i))],[],H⟩,fun i=>l.length - i,⟨0,?_⟩,?_⟩
 ·simp only [go_sem,reduceIte,↓reduceIte,sevalprocAttr,Z0,Z1,bytesOf]
  omega
 ·rintro i st ⟨hi,rfl⟩
  by_cases hlt:i<l.length
  ·have d1:decide ((i:Int)<(l.length:Int))=true:=by simp; omega
   have hg:(l.map TyE.cells)[i]?=some (TyE.cells l[i]):=by simp [hlt]
   have et:takeN 4 (List.map AV.p (TyE.cells l[i]))=some (List.map AV.p (TyE.cells l[i])):=takeN_all (by rw [List.length_map,TyE.cells_len])
   have ex:=wrN i (by omega)
   simp only [go_sem,reduceIte,↓reduceIte,sevalprocAttr,Z0,Z1,bytesOf,List.length_map,d1]
   intro _
   refine drw_same ?_
   simp only [go_sem,reduceIte,↓reduceIte,sevalprocAttr,Z0,Z1,bytesOf,hg,et,TyE.cells_len]
   refine acall_pure (he l[i] (List.getElem_mem hlt) _) ?_
   simp only [go_sem,reduceIte,↓reduceIte,sevalprocAttr,Z0,Z1,bytesOf,ex]
   exact ⟨i+1,⟨by omega,rfl⟩,by omega⟩
  ·have:i=l.length:=by omega
   subst this
   have d1:decide ((l.length:Int)<(l.length:Int))=false:=by simp
   simp only [go_sem,reduceIte,↓reduceIte,sevalprocAttr,Z0,Z1,bytesOf,List.length_map,d1]
   intro _
   exact ⟨rfl,rfl⟩
theorem eqL_Pat {l:List PatD} (he:∀ a∈l,EqC 120 (av (PatD.cells a))):EqC 145 (.p (.l (l.map PatD.cells))):=by
 intro H
 refine call145 (by simp) ?_
 have d0:decide ((l.length:Int)=(l.length:Int))=true:=by simp
 simp only [go_sem,reduceIte,↓reduceIte,sevalprocAttr,Z0,Z1,bytesOf,mc145,mr145,List.length_map,d0]
 intro hm hm2
 rw [maxLe] at hm
 refine ⟨Nat,[0,1,4,5],fun i st=>i≤l.length∧st=⟨[(0,.p (.l (l.map PatD.cells))),(1,.p (.l (l.map PatD.cells))),(4,.p (.b false)),(5,.p (.i .i64 i))],[],H⟩,fun i=>l.length - i,⟨0,?_⟩,?_⟩
 ·simp only [go_sem,reduceIte,↓reduceIte,sevalprocAttr,Z0,Z1,bytesOf]
  omega
 ·rintro i st ⟨hi,rfl⟩
  by_cases hlt:i<l.length
  ·have d1:decide ((i:Int)<(l.length:Int))=true:=by simp; omega
   have hg:(l.map PatD.cells)[i]?=some (PatD.cells l[i]):=by simp [hlt]
   have et:takeN 5 (List.map AV.p (PatD.cells l[i]))=some (List.map AV.p (PatD.cells l[i])):=takeN_all (by rw [List.length_map,PatD.cells_len])
   have ex:=wrN i (by omega)
   simp only [go_sem,reduceIte,↓reduceIte,sevalprocAttr,Z0,Z1,bytesOf,List.length_map,d1]
   intro _
   refine drw_same ?_
   simp only [go_sem,reduceIte,↓reduceIte,sevalprocAttr,Z0,Z1,bytesOf,hg,et,PatD.cells_len]
   refine acall_pure (he l[i] (List.getElem_mem hlt) _) ?_
   simp only [go_sem,reduceIte,↓reduceIte,sevalprocAttr,Z0,Z1,bytesOf,ex]
   exact ⟨i+1,⟨by omega,rfl⟩,by omega⟩
  ·have:i=l.length:=by omega
   subst this
   have d1:decide ((l.length:Int)<(l.length:Int))=false:=by simp
   simp only [go_sem,reduceIte,↓reduceIte,sevalprocAttr,Z0,Z1,bytesOf,List.length_map,d1]
   intro _
   exact ⟨rfl,rfl⟩
theorem eqL_Exp {l:List ExpD} (he:∀ a∈l,EqC 24 (av (ExpD.cells a))):EqC 58 (.p (.l (l.map ExpD.cells))):=by
 intro H
 refine call58 (by simp) ?_
 have d0:decide ((l.length:Int)=(l.length:Int))=true:=by simp
 simp only [go_sem,reduceIte,↓reduceIte,sevalprocAttr,Z0,Z1,bytesOf,mc58,mr58,List.length_map,d0]
 intro hm hm2
 rw [maxLe] at hm
 refine ⟨Nat,[0,1,4,5],fun i st=>i≤l.length∧st=⟨[(0,.p (.l (l.map ExpD.cells))),(1,.p (.l (l.map ExpD.cells))),(4,.p (.b false)),(5,.p (.i .i64 i))],[],H⟩,fun i=>l.length - i,⟨0,?_⟩,?_⟩
 ·simp only [go_sem,reduceIte,↓reduceIte,sevalprocAttr,Z0,Z1,bytesOf]
  omega
 ·rintro i st ⟨hi,rfl⟩
  by_cases hlt:i<l.length
  ·have d1:decide ((i:Int)<(l.length:Int))=true:=by simp; omega
   have hg:(l.map ExpD.cells)[i]?=some (ExpD.cells l[i]):=by simp [hlt]
   have et:takeN 7 (List.map AV.p (ExpD.cells l[i]))=some (List.map AV.p (ExpD.cells l[i])):=takeN_all (by rw [List.length_map,ExpD.cells_len])
   have ex:=wrN i (by omega)
   simp only [go_sem,reduceIte,↓reduceIte,sevalprocAttr,Z0,Z1,bytesOf,List.length_map,d1]
   intro _
   refine drw_same ?_
   simp only [go_sem,reduceIte,↓reduceIte,sevalprocAttr,Z0,Z1,bytesOf,hg,et,ExpD.cells_len]
   refine acall_pure (he l[i] (List.getElem_mem hlt) _) ?_
   simp only [go_sem,reduceIte,↓reduceIte,sevalprocAttr,Z0,Z1,bytesOf,ex]
   exact ⟨i+1,⟨by omega,rfl⟩,by omega⟩
  ·have:i=l.length:=by omega
   subst this
   have d1:decide ((l.length:Int)<(l.length:Int))=false:=by simp
   simp only [go_sem,reduceIte,↓reduceIte,sevalprocAttr,Z0,Z1,bytesOf,List.length_map,d1]
   intro _
   exact ⟨rfl,rfl⟩
theorem eqL_Arm {l:List ArmD} (he:∀ a∈l,EqC 91 (av (ArmD.cells a))):EqC 59 (.p (.l (l.map ArmD.cells))):=by
 intro H
 refine call59 (by simp) ?_
 have d0:decide ((l.length:Int)=(l.length:Int))=true:=by simp
 simp only [go_sem,reduceIte,↓reduceIte,sevalprocAttr,Z0,Z1,bytesOf,mc59,mr59,List.length_map,d0]
 intro hm hm2
 rw [maxLe] at hm
 refine ⟨Nat,[0,1,4,5],fun i st=>i≤l.length∧st=⟨[(0,.p (.l (l.map ArmD.cells))),(1,.p (.l (l.map ArmD.cells))),(4,.p (.b false)),(5,.p (.i .i64 i))],[],H⟩,fun i=>l.length - i,⟨0,?_⟩,?_⟩
 ·simp only [go_sem,reduceIte,↓reduceIte,sevalprocAttr,Z0,Z1,bytesOf]
  omega
 ·rintro i st ⟨hi,rfl⟩
  by_cases hlt:i<l.length
  ·have d1:decide ((i:Int)<(l.length:Int))=true:=by simp; omega
   have hg:(l.map ArmD.cells)[i]?=some (ArmD.cells l[i]):=by simp [hlt]
   have et:takeN 12 (List.map AV.p (ArmD.cells l[i]))=some (List.map AV.p (ArmD.cells l[i])):=takeN_all (by rw [List.length_map,ArmD.cells_len])
   have ex:=wrN i (by omega)
   simp only [go_sem,reduceIte,↓reduceIte,sevalprocAttr,Z0,Z1,bytesOf,List.length_map,d1]
   intro _
   refine drw_same ?_
   simp only [go_sem,reduceIte,↓reduceIte,sevalprocAttr,Z0,Z1,bytesOf,hg,et,ArmD.cells_len]
   refine acall_pure (he l[i] (List.getElem_mem hlt) _) ?_
   simp only [go_sem,reduceIte,↓reduceIte,sevalprocAttr,Z0,Z1,bytesOf,ex]
   exact ⟨i+1,⟨by omega,rfl⟩,by omega⟩
  ·have:i=l.length:=by omega
   subst this
   have d1:decide ((l.length:Int)<(l.length:Int))=false:=by simp
   simp only [go_sem,reduceIte,↓reduceIte,sevalprocAttr,Z0,Z1,bytesOf,List.length_map,d1]
   intro _
   exact ⟨rfl,rfl⟩
theorem eqL_Ctor {l:List CtorD} (he:∀ a∈l,EqC 119 (av (CtorD.cells a))):EqC 90 (.p (.l (l.map CtorD.cells))):=by
 intro H
 refine call90 (by simp) ?_
 have d0:decide ((l.length:Int)=(l.length:Int))=true:=by simp
 simp only [go_sem,reduceIte,↓reduceIte,sevalprocAttr,Z0,Z1,bytesOf,mc90,mr90,List.length_map,d0]
 intro hm hm2
 rw [maxLe] at hm
 refine ⟨Nat,[0,1,4,5],fun i st=>i≤l.length∧st=⟨[(0,.p (.l (l.map CtorD.cells))),(1,.p (.l (l.map CtorD.cells))),(4,.p (.b false)),(5,.p (.i .i64 i))],[],H⟩,fun i=>l.length - i,⟨0,?_⟩,?_⟩
 ·simp only [go_sem,reduceIte,↓reduceIte,sevalprocAttr,Z0,Z1,bytesOf]
  omega
 ·rintro i st ⟨hi,rfl⟩
  by_cases hlt:i<l.length
  ·have d1:decide ((i:Int)<(l.length:Int))=true:=by simp; omega
   have hg:(l.map CtorD.cells)[i]?=some (CtorD.cells l[i]):=by simp [hlt]
   have et:takeN 7 (List.map AV.p (CtorD.cells l[i]))=some (List.map AV.p (CtorD.cells l[i])):=takeN_all (by rw [List.length_map,CtorD.cells_len])
   have ex:=wrN i (by omega)
   simp only [go_sem,reduceIte,↓reduceIte,sevalprocAttr,Z0,Z1,bytesOf,List.length_map,d1]
   intro _
   refine drw_same ?_
   simp only [go_sem,reduceIte,↓reduceIte,sevalprocAttr,Z0,Z1,bytesOf,hg,et,CtorD.cells_len]
   refine acall_pure (he l[i] (List.getElem_mem hlt) _) ?_
   simp only [go_sem,reduceIte,↓reduceIte,sevalprocAttr,Z0,Z1,bytesOf,ex]
   exact ⟨i+1,⟨by omega,rfl⟩,by omega⟩
  ·have:i=l.length:=by omega
   subst this
   have d1:decide ((l.length:Int)<(l.length:Int))=false:=by simp
   simp only [go_sem,reduceIte,↓reduceIte,sevalprocAttr,Z0,Z1,bytesOf,List.length_map,d1]
   intro _
   exact ⟨rfl,rfl⟩
theorem eqL_Data {l:List DataD} (he:∀ a∈l,EqC 57 (av (DataD.cells a))):EqC 23 (.p (.l (l.map DataD.cells))):=by
 intro H
 refine call23 (by simp) ?_
 have d0:decide ((l.length:Int)=(l.length:Int))=true:=by simp
 simp only [go_sem,reduceIte,↓reduceIte,sevalprocAttr,Z0,Z1,bytesOf,mc23,mr23,List.length_map,d0]
 intro hm hm2
 rw [maxLe] at hm
 refine ⟨Nat,[0,1,4,5],fun i st=>i≤l.length∧st=⟨[(0,.p (.l (l.map DataD.cells))),(1,.p (.l (l.map DataD.cells))),(4,.p (.b false)),(5,.p (.i .i64 i))],[],H⟩,fun i=>l.length - i,⟨0,?_⟩,?_⟩
 ·simp only [go_sem,reduceIte,↓reduceIte,sevalprocAttr,Z0,Z1,bytesOf]
  omega
 ·rintro i st ⟨hi,rfl⟩
  by_cases hlt:i<l.length
  ·have d1:decide ((i:Int)<(l.length:Int))=true:=by simp; omega
   have hg:(l.map DataD.cells)[i]?=some (DataD.cells l[i]):=by simp [hlt]
   have et:takeN 4 (List.map AV.p (DataD.cells l[i]))=some (List.map AV.p (DataD.cells l[i])):=takeN_all (by rw [List.length_map,DataD.cells_len])
   have ex:=wrN i (by omega)
   simp only [go_sem,reduceIte,↓reduceIte,sevalprocAttr,Z0,Z1,bytesOf,List.length_map,d1]
   intro _
   refine drw_same ?_
   simp only [go_sem,reduceIte,↓reduceIte,sevalprocAttr,Z0,Z1,bytesOf,hg,et,DataD.cells_len]
   refine acall_pure (he l[i] (List.getElem_mem hlt) _) ?_
   simp only [go_sem,reduceIte,↓reduceIte,sevalprocAttr,Z0,Z1,bytesOf,ex]
   exact ⟨i+1,⟨by omega,rfl⟩,by omega⟩
  ·have:i=l.length:=by omega
   subst this
   have d1:decide ((l.length:Int)<(l.length:Int))=false:=by simp
   simp only [go_sem,reduceIte,↓reduceIte,sevalprocAttr,Z0,Z1,bytesOf,List.length_map,d1]
   intro _
   exact ⟨rfl,rfl⟩
theorem eqL_String {l:List (List UInt8)}:EqC 89 (.p (.l (namesC l))):=by
 intro H
 refine call89 (by simp) ?_
 have d0:decide ((l.length:Int)=(l.length:Int))=true:=by simp
 simp only [go_sem,reduceIte,↓reduceIte,sevalprocAttr,Z0,Z1,bytesOf,mc89,mr89,namesC,List.length_map,d0]
 intro hm hm2
 rw [maxLe] at hm
 refine ⟨Nat,[0,1,4,5],fun i st=>i≤l.length∧st=⟨[(0,.p (.l (l.map fun s=>[.s s]))),(1,.p (.l (l.map fun s=>[.s s]))),(4,.p (.b false)),(5,.p (.i .i64 i))],[],H⟩,fun i=>l.length - i,⟨0,?_⟩,?_⟩
 ·simp only [go_sem,reduceIte,↓reduceIte,sevalprocAttr,Z0,Z1,bytesOf]
  omega
 ·rintro i st ⟨hi,rfl⟩
  by_cases hlt:i<l.length
  ·have d1:decide ((i:Int)<(l.length:Int))=true:=by simp; omega
   have hg:(l.map fun s=>[PV.s s])[i]?=some [.s l[i]]:=by simp [hlt]
   have d3:decide (l[i]≠l[i])=false:=by simp
   have ex:=wrN i (by omega)
   simp only [go_sem,reduceIte,↓reduceIte,sevalprocAttr,Z0,Z1,bytesOf,List.length_map,d1]
   intro _
   refine drw_same ?_
   simp only [go_sem,reduceIte,↓reduceIte,sevalprocAttr,Z0,Z1,bytesOf,hg]
   simp only [go_sem,reduceIte,↓reduceIte,sevalprocAttr,Z0,Z1,bytesOf,ex]
   exact ⟨i+1,⟨by omega,rfl⟩,by omega⟩
  ·have:i=l.length:=by omega
   subst this
   have d1:decide ((l.length:Int)<(l.length:Int))=false:=by simp
   simp only [go_sem,reduceIte,↓reduceIte,sevalprocAttr,Z0,Z1,bytesOf,List.length_map,d1]
   intro _
   exact ⟨rfl,rfl⟩
theorem eq_TypeExp (k:Int) (n:List UInt8) (p:Int) (ks:List TyE) (hk:EqC 152 (.p (.l (TyE.cellsL ks)))):EqC 144 (av (TyE.cells (TyE.mk k n p ks))):=by
 intro H
 refine acall_drop1 ?_ (tf_p _)
 refine call144 (by simp) ?_
 simp only [go_sem,reduceIte,↓reduceIte,sevalprocAttr,Z0,Z1,bytesOf,mc144,mr144,TyE.cells]
 refine acall_pure (hk _) ?_
 simp only [go_sem,reduceIte,↓reduceIte,sevalprocAttr,Z0,Z1,bytesOf]
 exact ⟨_,rfl⟩
theorem eq_Pat (k:Int) (n:List UInt8) (u p:Int) (ks:List PatD) (hk:EqC 145 (.p (.l (PatD.cellsL ks)))):EqC 120 (av (PatD.cells (PatD.mk k n u p ks))):=by
 intro H
 refine acall_drop1 ?_ (tf_p _)
 refine call120 (by simp) ?_
 simp only [go_sem,reduceIte,↓reduceIte,sevalprocAttr,Z0,Z1,bytesOf,mc120,mr120,PatD.cells]
 refine acall_pure (hk _) ?_
 simp only [go_sem,reduceIte,↓reduceIte,sevalprocAttr,Z0,Z1,bytesOf]
 exact ⟨_,rfl⟩
theorem eq_Exp (k:Int) (n:List UInt8) (u:Int) (t:List UInt8) (p:Int) (ks:List ExpD) (as':List ArmD) (hk:EqC 58 (.p (.l (ExpD.cellsL ks)))) (ha:EqC 59 (.p (.l (ExpD.cellsA as')))):EqC 24 (av (ExpD.cells (ExpD.mk k n u t p ks as'))):=by
 intro H
 refine acall_drop1 ?_ (tf_p _)
 refine call24 (by simp) ?_
 simp only [go_sem,reduceIte,↓reduceIte,sevalprocAttr,Z0,Z1,bytesOf,mc24,mr24,ExpD.cells]
 refine acall_pure (hk _) ?_
 simp only [go_sem,reduceIte,↓reduceIte,sevalprocAttr,Z0,Z1,bytesOf]
 refine acall_pure (ha _) ?_
 simp only [go_sem,reduceIte,↓reduceIte,sevalprocAttr,Z0,Z1,bytesOf]
 exact ⟨_,rfl⟩
theorem eq_Arm {p:PatD} {e:ExpD} (hp:EqC 120 (av p.cells)) (he:EqC 24 (av e.cells)):EqC 91 (av (ArmD.cells (ArmD.mk p e))):=by
 intro H
 obtain ⟨pk,pn,pu,pp,pks⟩:=p
 obtain ⟨ek,en,eu,et,ep,eks,eas⟩:=e
 rw [av,PatD.cells] at hp
 rw [av,ExpD.cells] at he
 simp only [List.map_cons,List.map_nil] at hp he
 refine acall_drop1 ?_ (tf_p _)
 refine call91 (by simp) ?_
 simp only [go_sem,reduceIte,↓reduceIte,sevalprocAttr,Z0,Z1,bytesOf,mc91,mr91,ArmD.cells,PatD.cells,ExpD.cells]
 refine acall_pure (hp _) ?_
 simp only [go_sem,reduceIte,↓reduceIte,sevalprocAttr,Z0,Z1,bytesOf]
 refine acall_pure (he _) ?_
 simp only [go_sem,reduceIte,↓reduceIte,sevalprocAttr,Z0,Z1,bytesOf]
 exact ⟨_,rfl⟩
theorem eq_Ctor {c:CtorD} (ht:EqC 144 (av c.arg.cells)):EqC 119 (av (CtorD.cells (c))):=by
 intro H
 obtain ⟨cn,ch,⟨ak,an,ap,aks⟩,cp⟩:=c
 rw [av,TyE.cells] at ht
 simp only [List.map_cons,List.map_nil] at ht
 refine acall_drop1 ?_ (tf_p _)
 refine call119 (by simp) ?_
 simp only [go_sem,reduceIte,↓reduceIte,sevalprocAttr,Z0,Z1,bytesOf,mc119,mr119,CtorD.cells,TyE.cells]
 refine acall_pure (ht _) ?_
 simp only [go_sem,reduceIte,↓reduceIte,sevalprocAttr,Z0,Z1,bytesOf]
 exact ⟨_,rfl⟩
theorem eq_Data {d:DataD} (hv:EqC 89 (.p (.l (namesC d.vars)))) (hc:EqC 90 (.p (.l (d.ctors.map CtorD.cells)))):EqC 57 (av (DataD.cells (d))):=by
 intro H
 refine acall_drop1 ?_ (tf_p _)
 refine call57 (by simp) ?_
 simp only [go_sem,reduceIte,↓reduceIte,sevalprocAttr,Z0,Z1,bytesOf,mc57,mr57,DataD.cells]
 refine acall_pure (hv _) ?_
 simp only [go_sem,reduceIte,↓reduceIte,sevalprocAttr,Z0,Z1,bytesOf]
 refine acall_pure (hc _) ?_
 simp only [go_sem,reduceIte,↓reduceIte,sevalprocAttr,Z0,Z1,bytesOf]
 exact ⟨_,rfl⟩
theorem eq_Prog {g:ProgD} (hd:EqC 23 (.p (.l (g.types.map DataD.cells)))) (he:EqC 24 (av g.body.cells)):EqC 10 (av (ProgD.cells (g))):=by
 intro H
 obtain ⟨gt,⟨ek,en,eu,et,ep,eks,eas⟩⟩:=g
 rw [av,ExpD.cells] at he
 simp only [List.map_cons,List.map_nil] at he
 refine acall_drop1 ?_ (tf_p _)
 refine call10 (by simp) ?_
 simp only [go_sem,reduceIte,↓reduceIte,sevalprocAttr,Z0,Z1,bytesOf,mc10,mr10,ProgD.cells,ExpD.cells]
 refine acall_pure (hd _) ?_
 simp only [go_sem,reduceIte,↓reduceIte,sevalprocAttr,Z0,Z1,bytesOf]
 refine acall_pure (he _) ?_
 simp only [go_sem,reduceIte,↓reduceIte,sevalprocAttr,Z0,Z1,bytesOf]
 exact ⟨_,rfl⟩
/- all trees -/
theorem eqTy : ∀ (m : Nat) (t : TyE), t.sz < m → EqC 144 (av t.cells) := by
  intro m
  induction m with
  | zero => intro t h; omega
  | succ m ih =>
    intro t h
    obtain ⟨k, n, p, ks⟩ := t
    rw [TyE.sz, TyE.szL_eq] at h
    have := eq_TypeExp k n p ks
    rw [TyE.cellsL_eq] at this
    exact this (eqL_TypeExp fun a ha => ih a (by have := sumSz_mem TyE.sz ha; omega))
theorem eqPatA : ∀ (m : Nat) (t : PatD), t.sz < m → EqC 120 (av t.cells) := by
  intro m
  induction m with
  | zero => intro t h; omega
  | succ m ih =>
    intro t h
    obtain ⟨k, n, u, p, ks⟩ := t
    rw [PatD.sz, PatD.szL_eq] at h
    have := eq_Pat k n u p ks
    rw [PatD.cellsL_eq] at this
    exact this (eqL_Pat fun a ha => ih a (by have := sumSz_mem PatD.sz ha; omega))
theorem eqExpA : ∀ (m : Nat) (t : ExpD), t.sz < m → EqC 24 (av t.cells) := by
  intro m
  induction m with
  | zero => intro t h; omega
  | succ m ih =>
    intro t h
    obtain ⟨k, n, u, x, p, ks, as'⟩ := t
    rw [ExpD.sz, ExpD.szL_eq, ExpD.szA_eq] at h
    have := eq_Exp k n u x p ks as'
    rw [ExpD.cellsL_eq, ExpD.cellsA_eq] at this
    refine this (eqL_Exp fun a ha => ih a (by have := sumSz_mem ExpD.sz ha; omega)) (eqL_Arm fun a ha => ?_)
    have hm := sumSz_mem ArmD.sz ha
    obtain ⟨q, e⟩ := a
    rw [ArmD.sz] at hm
    exact eq_Arm (eqPatA _ q (Nat.lt_succ_self _)) (ih e (by omega))
theorem eqProgC (g:ProgD):EqC 10 (av g.cells) :=
 eq_Prog (eqL_Data fun d hd=>eq_Data eqL_String (eqL_Ctor fun c hc=>eq_Ctor (eqTy _ _ (Nat.lt_succ_self _)))) (eqExpA _ _ (Nat.lt_succ_self _))
end Go.Proofs.YtnelfbcgplooiaaGreat.Pg