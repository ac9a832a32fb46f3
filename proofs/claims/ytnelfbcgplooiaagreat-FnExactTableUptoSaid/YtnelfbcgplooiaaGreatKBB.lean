/- Texts PgD PgE PgI PgJ, merged. -/
import Derived.Test.YtnelfbcgplooiaaGreatKBA
import Derived.Test.YtnelfbcgplooiaaGreatChecked
import Derived.KernelRfl
/- THE SMALL CODES of functions 6 11 19 25 26 27 28 46 47 48 60 61 62 63 64 65 66 83 92 93 94 95 96 97 98 121 122 123 124 125, and their ties to the program (printed by wip/tools/mkties2.py). -/
set_option linter.all false
namespace Go.Proofs.YtnelfbcgplooiaaGreat.Mc
open Go.AM
def zl6_0:List AV:=[.p (.s []),.p (.b false),.p (.i .i64 0),.p (.s []),.p (.i .i64 0),.p (.nl),.p (.i .i64 0)]
def zl6_1:List AV:=[.p (.s []),.p (.b false),.p (.i .i64 0),.p (.i .i64 0),.p (.s []),.p (.nl)]
/- spec.Scope -/
/- spec.Table -/
def lv11:List Nat:=[0,1,2,3,4,5,6,7,8,9,10,11,12,13,14,15,16,20,27,36,48,60,75,87,103,114]
def mc11e:MC :=
.reg [
 iT 119 (.fad 2 (.l 11)),iT 120 (.ld false 1 (.t 119)),iT 121 (.ld true 6 (.l 14)),iT 122 (.bsl 6 zl6_1 1 [(0,(.t 121))]),iT 123 (.app 6 80 (.t 120) (.t 122)),iT 124 (.fad 2 (.l 11)),iN (.sto 1 (.t 124) (.t 123))]
def mc11n:MC :=
.seq (.reg [
 iT 92 (.mv (.l 7)),iT 93 (.fad 0 (.l 13)),iT 94 (.ld false 1 (.t 93)),iT 95 (.bsl 1 [.p (.s [])] 1 [(0,(.t 94))]),iT 96 (.app 1 16 (.t 92) (.t 95)),iL 7 (.mv (.t 96))]) (
 .seq (.reg [
 iT 97 (.fad 0 (.l 13)),iT 98 (.ld false 1 (.t 97)),iT 99 (.fad 1 (.l 13)),iT 100 (.ld false 1 (.t 99)),iT 101 (.build zl6_1 [(0,1,(.t 98)),(1,1,(.t 100))]),iL 14 (.alloc zl6_1),iN (.sto 6 (.l 14) (.t 101))]) (
 .seq (.seq (.reg [
 iT 102 (.fad 1 (.l 13)),iL 103 (.ld false 1 (.t 102))]) (
 .cond (.l 103) (
 .seq (.reg [
 iT 105 (.ld true 8 (.l 1)),iT 106 (.ld true 4 (.l 9)),iT 107 (.fad 2 (.l 13)),iT 108 (.ld true 4 (.t 107)),iT 109 (.call 28 [.t 105,.t 106,.t 108]),iT 104 (.mv (.t 109)),iT 110 (.ext (.t 104) 0),iT 111 (.ext (.t 104) 1),iL 15 (.alloc [.p (.i .i64 0),.p (.i .i64 0),.p (.s []),.p (.nl)]),iL 16 (.alloc [.p (.i .i64 0),.p (.i .i64 0)]),iN (.sto 4 (.l 15) (.t 110)),iN (.sto 2 (.l 16) (.t 111))]) (
 .seq (.seq (.reg [
 iT 112 (.fad 0 (.l 16)),iT 113 (.ld false 1 (.t 112)),iL 114 (.bin .neq (.t 113) (cI 0))]) (
 .cond (.l 114) (
 .seq (.drw [
 iT 115 (.mv (.l 4)),iT 116 (.ld true 2 (.l 16)),iL 2 (.mv (.t 115))] [
 iN (.sto 2 (.l 3) (.t 116))]) (
 .ret)) (
 .skip))) (
 .reg [
 iT 117 (.ld true 4 (.l 15)),iT 118 (.fad 2 (.l 14)),iN (.sto 4 (.t 118) (.t 117))]))) (
 .skip))) mc11e))
def mc11l:MC :=
.seq (.seq (.reg [
 iL 12 (.mv (cI 0))]) (
 .blk 4 (
 .loop (
 .seq (.seq (.reg [
 iT 71 (.mv (.l 12)),iT 72 (.fad 2 (.l 9)),iT 73 (.ld false 1 (.t 72)),iT 74 (.len false (.t 73)),iL 75 (.bin .lss (.t 71) (.t 74))]) (
 .cond (.l 75) (
 .skip) (
 .exit 4))) (
 .seq (.blk 5 (
 .seq (.reg [
 iT 78 (.fad 2 (.l 9)),iT 79 (.ld false 1 (.t 78)),iT 80 (.mv (.l 12)),iT 81 (.ixs 7 (.t 79) (.t 80)),iT 82 (.ld true 7 (.t 81)),iL 13 (.alloc zl6_0),iN (.sto 7 (.l 13) (.t 82))]) (
 .seq (.seq (.reg [
 iT 83 (.mv (.l 7)),iT 84 (.fad 0 (.l 13)),iT 85 (.ld false 1 (.t 84)),iT 86 (.call 27 [.t 83,.t 85]),iL 87 (.bin .geq (.t 86) (cI 0))]) (
 .cond (.l 87) (
 .seq (.drw [
 iT 88 (.mv (.l 4)),iT 89 (.fad 6 (.l 13)),iT 90 (.ld false 1 (.t 89)),iT 91 (.build [.p (.i .i64 0),.p (.i .i64 0)] [(0,1,(cI 23)),(1,1,(.t 90))]),iL 2 (.mv (.t 88))] [
 iN (.sto 2 (.l 3) (.t 91))]) (
 .ret)) (
 .skip))) mc11n))) (
 .reg [
 iT 76 (.mv (.l 12)),iT 77 (.bin .add (.t 76) (cI 1)),iL 12 (.mv (.t 77))])))))) (
 .reg [
 iT 125 (.mv (.l 6)),iT 126 (.ld true 3 (.l 11)),iT 127 (.bsl 3 [.p (.s []),.p (.i .i64 0),.p (.nl)] 1 [(0,(.t 126))]),iT 128 (.app 3 48 (.t 125) (.t 127)),iL 6 (.mv (.t 128))])
def mc11:MC :=
.seq (.reg [
 iL 1 (.box 8 (.l 0)),iL 2 (.mv (.c (.p (.nl)))),iL 3 (.alloc [.p (.i .i64 0),.p (.i .i64 0)])]) (
 .seq (.reg [
 iT 17 (.bsl 3 [.p (.s []),.p (.i .i64 0),.p (.nl)] 0 []),iL 4 (.mv (.t 17))]) (
 .seq (.seq (.reg [
 iT 18 (.ld true 8 (.l 1)),iT 19 (.call 25 [.t 18]),iL 20 (.un .not (.t 19))]) (
 .cond (.l 20) (
 .seq (.reg [
 iT 21 (.mv (.l 4)),iT 22 (.build [.p (.i .i64 0),.p (.i .i64 0)] [(0,1,(cI 20))]),iL 2 (.mv (.t 21)),iN (.sto 2 (.l 3) (.t 22))]) (
 .ret)) (
 .skip))) (
 .seq (.seq (.reg [
 iT 23 (.ld true 8 (.l 1)),iT 24 (.call 26 [.t 23]),iL 5 (.alloc [.p (.i .i64 0),.p (.i .i64 0)]),iN (.sto 2 (.l 5) (.t 24))]) (
 .seq (.reg [
 iT 25 (.fad 0 (.l 5)),iT 26 (.ld false 1 (.t 25)),iL 27 (.bin .neq (.t 26) (cI 0))]) (
 .cond (.l 27) (
 .seq (.drw [
 iT 28 (.mv (.l 4)),iT 29 (.ld true 2 (.l 5)),iL 2 (.mv (.t 28))] [
 iN (.sto 2 (.l 3) (.t 29))]) (
 .ret)) (
 .skip)))) (
 .seq (.reg [
 iT 30 (.bsl 3 [.p (.s []),.p (.i .i64 0),.p (.nl)] 0 []),iL 6 (.mv (.t 30))]) (
 .seq (.reg [
 iT 31 (.bsl 1 [.p (.s [])] 0 []),iL 7 (.mv (.t 31))]) (
 .seq (.seq (.reg [
 iL 8 (.mv (cI 0))]) (
 .blk 0 (
 .loop (
 .seq (.seq (.reg [
 iT 32 (.mv (.l 8)),iT 33 (.fad 0 (.l 1)),iT 34 (.ld false 1 (.t 33)),iT 35 (.len false (.t 34)),iL 36 (.bin .lss (.t 32) (.t 35))]) (
 .cond (.l 36) (
 .skip) (
 .exit 0))) (
 .seq (.blk 1 (
 .seq (.reg [
 iT 39 (.fad 0 (.l 1)),iT 40 (.ld false 1 (.t 39)),iT 41 (.mv (.l 8)),iT 42 (.ixs 4 (.t 40) (.t 41)),iT 43 (.ld true 4 (.t 42)),iL 9 (.alloc [.p (.s []),.p (.nl),.p (.nl),.p (.i .i64 0)]),iN (.sto 4 (.l 9) (.t 43))]) (
 .seq (.seq (.reg [
 iL 10 (.mv (cI 0))]) (
 .blk 2 (
 .loop (
 .seq (.seq (.reg [
 iT 44 (.mv (.l 10)),iT 45 (.fad 1 (.l 9)),iT 46 (.ld false 1 (.t 45)),iT 47 (.len false (.t 46)),iL 48 (.bin .lss (.t 44) (.t 47))]) (
 .cond (.l 48) (
 .skip) (
 .exit 2))) (
 .seq (.blk 3 (
 .seq (.drw [
 iT 51 (.fad 1 (.l 9)),iT 52 (.ld false 1 (.t 51)),iT 53 (.fad 1 (.l 9)),iT 54 (.ld false 1 (.t 53)),iT 55 (.mv (.l 10)),iT 56 (.ixs 1 (.t 54) (.t 55)),iT 57 (.ld false 1 (.t 56)),iT 58 (.call 27 [.t 52,.t 57]),iT 59 (.mv (.l 10))] [
 iL 60 (.bin .lss (.t 58) (.t 59))]) (
 .cond (.l 60) (
 .seq (.drw [
 iT 61 (.mv (.l 4)),iT 62 (.fad 3 (.l 9)),iT 63 (.ld false 1 (.t 62)),iT 64 (.build [.p (.i .i64 0),.p (.i .i64 0)] [(0,1,(cI 22)),(1,1,(.t 63))]),iL 2 (.mv (.t 61))] [
 iN (.sto 2 (.l 3) (.t 64))]) (
 .ret)) (
 .skip)))) (
 .reg [
 iT 49 (.mv (.l 10)),iT 50 (.bin .add (.t 49) (cI 1)),iL 10 (.mv (.t 50))])))))) (
 .seq (.reg [
 iT 65 (.fad 0 (.l 9)),iT 66 (.ld false 1 (.t 65)),iT 67 (.fad 1 (.l 9)),iT 68 (.ld false 1 (.t 67)),iT 69 (.len false (.t 68)),iT 70 (.build [.p (.s []),.p (.i .i64 0),.p (.nl)] [(0,1,(.t 66)),(1,1,(.t 69))]),iL 11 (.alloc [.p (.s []),.p (.i .i64 0),.p (.nl)]),iN (.sto 3 (.l 11) (.t 70))]) mc11l)))) (
 .reg [
 iT 37 (.mv (.l 8)),iT 38 (.bin .add (.t 37) (cI 1)),iL 8 (.mv (.t 38))])))))) (
 .seq (.reg [
 iT 129 (.mv (.l 6)),iT 130 (.build [.p (.i .i64 0),.p (.i .i64 0)] []),iL 2 (.mv (.t 129)),iN (.sto 2 (.l 3) (.t 130))]) (
 .ret))))))))
theorem mc11_eq:(Tryz.f11.body.map (compile lv11 Tryz.prog 131))=some mc11:=by kernel_rfl
def mr11:List MR:=[.t 2,.cell true 2 3]
theorem mr11_eq:cRess lv11 Tryz.prog Tryz.f11.results.toList=some mr11:=by kernel_rfl
theorem call11:CallT Tryz.prog 11 131 mc11 mr11:=acall_mc (by kernel_rfl) Tryz.func11 mc11_eq Tryz.ntmps11 (by kernel_rfl) mr11_eq
/- spec.l5Exp -/
/- spec.ProgOk -/
def lv25:List Nat:=[0,1,2,3,4,5,6,7,12,34,39,48,53,90]
def mc25:MC :=
.seq (.reg [
 iL 1 (.box 8 (.l 0)),iL 2 (.mv (.c (.p (.b false))))]) (
 .seq (.seq (.reg [
 iL 3 (.mv (cI 0))]) (
 .blk 0 (
 .loop (
 .seq (.seq (.reg [
 iT 8 (.mv (.l 3)),iT 9 (.fad 0 (.l 1)),iT 10 (.ld false 1 (.t 9)),iT 11 (.len false (.t 10)),iL 12 (.bin .lss (.t 8) (.t 11))]) (
 .cond (.l 12) (
 .skip) (
 .exit 0))) (
 .seq (.blk 1 (
 .seq (.reg [
 iT 15 (.fad 0 (.l 1)),iT 16 (.ld false 1 (.t 15)),iT 17 (.mv (.l 3)),iT 18 (.ixs 4 (.t 16) (.t 17)),iT 19 (.ld true 4 (.t 18)),iL 4 (.alloc [.p (.s []),.p (.nl),.p (.nl),.p (.i .i64 0)]),iN (.sto 4 (.l 4) (.t 19))]) (
 .seq (.seq (.reg [
 iT 20 (.fad 0 (.l 4)),iT 21 (.ld false 1 (.t 20)),iT 22 (.call 60 [.t 21]),iT 23 (.un .not (.t 22)),iT 24 (.mv (.t 23)),⟨.t 25,.fad 3 (.l 4),some ((.t 24),false)⟩,⟨.t 26,.ld false 1 (.t 25),some ((.t 24),false)⟩,⟨.t 27,.bin .lss (.t 26) (cI 0),some ((.t 24),false)⟩,iT 28 (.pick (.t 24) (.c (.p (.b true))) (.t 27)),iT 29 (.mv (.t 28)),⟨.t 30,.fad 2 (.l 4),some ((.t 29),false)⟩,⟨.t 31,.ld false 1 (.t 30),some ((.t 29),false)⟩,⟨.t 32,.len false (.t 31),some ((.t 29),false)⟩,⟨.t 33,.bin .eql (.t 32) (cI 0),some ((.t 29),false)⟩,iL 34 (.pick (.t 29) (.c (.p (.b true))) (.t 33))]) (
 .cond (.l 34) (
 .seq (.reg [
 iL 2 (.mv (.c (.p (.b false))))]) (
 .ret)) (
 .skip))) (
 .seq (.seq (.reg [
 iL 5 (.mv (cI 0))]) (
 .blk 2 (
 .loop (
 .seq (.seq (.reg [
 iT 35 (.mv (.l 5)),iT 36 (.fad 1 (.l 4)),iT 37 (.ld false 1 (.t 36)),iT 38 (.len false (.t 37)),iL 39 (.bin .lss (.t 35) (.t 38))]) (
 .cond (.l 39) (
 .skip) (
 .exit 2))) (
 .seq (.blk 3 (
 .seq (.reg [
 iT 42 (.fad 1 (.l 4)),iT 43 (.ld false 1 (.t 42)),iT 44 (.mv (.l 5)),iT 45 (.ixs 1 (.t 43) (.t 44)),iT 46 (.ld false 1 (.t 45)),iT 47 (.call 61 [.t 46,.c (.p (.b false))]),iL 48 (.un .not (.t 47))]) (
 .cond (.l 48) (
 .seq (.reg [
 iL 2 (.mv (.c (.p (.b false))))]) (
 .ret)) (
 .skip)))) (
 .reg [
 iT 40 (.mv (.l 5)),iT 41 (.bin .add (.t 40) (cI 1)),iL 5 (.mv (.t 41))])))))) (
 .seq (.reg [
 iL 6 (.mv (cI 0))]) (
 .blk 4 (
 .loop (
 .seq (.seq (.reg [
 iT 49 (.mv (.l 6)),iT 50 (.fad 2 (.l 4)),iT 51 (.ld false 1 (.t 50)),iT 52 (.len false (.t 51)),iL 53 (.bin .lss (.t 49) (.t 52))]) (
 .cond (.l 53) (
 .skip) (
 .exit 4))) (
 .seq (.blk 5 (
 .seq (.reg [
 iT 56 (.fad 2 (.l 4)),iT 57 (.ld false 1 (.t 56)),iT 58 (.mv (.l 6)),iT 59 (.ixs 7 (.t 57) (.t 58)),iT 60 (.ld true 7 (.t 59)),iL 7 (.alloc zl6_0),iN (.sto 7 (.l 7) (.t 60))]) (
 .seq (.reg [
 iT 61 (.fad 0 (.l 7)),iT 62 (.ld false 1 (.t 61)),iT 63 (.call 61 [.t 62,.c (.p (.b true))]),iT 64 (.un .not (.t 63)),iT 65 (.mv (.t 64)),⟨.t 66,.fad 6 (.l 7),some ((.t 65),false)⟩,⟨.t 67,.ld false 1 (.t 66),some ((.t 65),false)⟩,⟨.t 68,.bin .lss (.t 67) (cI 0),some ((.t 65),false)⟩,iT 69 (.pick (.t 65) (.c (.p (.b true))) (.t 68)),iT 70 (.mv (.t 69)),⟨.t 71,.fad 1 (.l 7),some ((.t 70),false)⟩,⟨.t 72,.ld false 1 (.t 71),some ((.t 70),false)⟩,⟨.t 73,.mv (.t 72),some ((.t 70),false)⟩,⟨.t 74,.fad 2 (.l 7),some ((.t 73),true)⟩,⟨.t 75,.ld true 4 (.t 74),some ((.t 73),true)⟩,⟨.t 76,.call 62 [.t 75],some ((.t 73),true)⟩,⟨.t 77,.un .not (.t 76),some ((.t 73),true)⟩,⟨.t 78,.pick (.t 73) (.t 77) (.c (.p (.b false))),some ((.t 70),false)⟩,iT 79 (.pick (.t 70) (.c (.p (.b true))) (.t 78)),iT 80 (.mv (.t 79)),⟨.t 81,.fad 1 (.l 7),some ((.t 80),false)⟩,⟨.t 82,.ld false 1 (.t 81),some ((.t 80),false)⟩,⟨.t 83,.un .not (.t 82),some ((.t 80),false)⟩,⟨.t 84,.mv (.t 83),some ((.t 80),false)⟩,⟨.t 85,.fad 2 (.l 7),some ((.t 84),true)⟩,⟨.t 86,.ld true 4 (.t 85),some ((.t 84),true)⟩,⟨.t 87,.call 63 [.t 86],some ((.t 84),true)⟩,⟨.t 88,.un .not (.t 87),some ((.t 84),true)⟩,⟨.t 89,.pick (.t 84) (.t 88) (.c (.p (.b false))),some ((.t 80),false)⟩,iL 90 (.pick (.t 80) (.c (.p (.b true))) (.t 89))]) (
 .cond (.l 90) (
 .seq (.reg [
 iL 2 (.mv (.c (.p (.b false))))]) (
 .ret)) (
 .skip))))) (
 .reg [
 iT 54 (.mv (.l 6)),iT 55 (.bin .add (.t 54) (cI 1)),iL 6 (.mv (.t 55))])))))))))) (
 .reg [
 iT 13 (.mv (.l 3)),iT 14 (.bin .add (.t 13) (cI 1)),iL 3 (.mv (.t 14))])))))) (
 .seq (.reg [
 iT 91 (.fad 1 (.l 1)),iT 92 (.ld true 7 (.t 91)),iT 93 (.call 64 [.t 92]),iL 2 (.mv (.t 93))]) (
 .ret)))
theorem mc25_eq:(Tryz.f25.body.map (compile lv25 Tryz.prog 94))=some mc25:=by kernel_rfl
def mr25:List MR:=[.t 2]
theorem mr25_eq:cRess lv25 Tryz.prog Tryz.f25.results.toList=some mr25:=by kernel_rfl
theorem call25:CallT Tryz.prog 25 94 mc25 mr25:=acall_mc (by kernel_rfl) Tryz.func25 mc25_eq Tryz.ntmps25 (by kernel_rfl) mr25_eq
/- spec.l5Many -/
def lv26:List Nat:=[0,1,2,3,4,9,13,28,43,65]
def mc26:MC :=
.seq (.reg [
 iL 1 (.box 8 (.l 0)),iL 2 (.alloc [.p (.i .i64 0),.p (.i .i64 0)])]) (
 .seq (.seq (.reg [
 iL 3 (.mv (cI 0))]) (
 .blk 0 (
 .loop (
 .seq (.seq (.reg [
 iT 5 (.mv (.l 3)),iT 6 (.fad 0 (.l 1)),iT 7 (.ld false 1 (.t 6)),iT 8 (.len false (.t 7)),iL 9 (.bin .lss (.t 5) (.t 8))]) (
 .cond (.l 9) (
 .skip) (
 .exit 0))) (
 .seq (.blk 1 (
 .seq (.seq (.reg [
 iT 12 (.mv (.l 3)),iL 13 (.bin .eql (.t 12) (cI 12))]) (
 .cond (.l 13) (
 .seq (.reg [
 iT 14 (.fad 0 (.l 1)),iT 15 (.ld false 1 (.t 14)),iT 16 (.mv (.l 3)),iT 17 (.ixs 4 (.t 15) (.t 16)),iT 18 (.fad 3 (.t 17)),iT 19 (.ld false 1 (.t 18)),iT 20 (.build [.p (.i .i64 0),.p (.i .i64 0)] [(0,1,(cI 26)),(1,1,(.t 19))]),iN (.sto 2 (.l 2) (.t 20))]) (
 .ret)) (
 .skip))) (
 .seq (.reg [
 iT 21 (.fad 0 (.l 1)),iT 22 (.ld false 1 (.t 21)),iT 23 (.mv (.l 3)),iT 24 (.ixs 4 (.t 22) (.t 23)),iT 25 (.fad 2 (.t 24)),iT 26 (.ld false 1 (.t 25)),iT 27 (.len false (.t 26)),iL 28 (.bin .gtr (.t 27) (cI 16))]) (
 .cond (.l 28) (
 .seq (.reg [
 iT 29 (.fad 0 (.l 1)),iT 30 (.ld false 1 (.t 29)),iT 31 (.mv (.l 3)),iT 32 (.ixs 4 (.t 30) (.t 31)),iT 33 (.fad 2 (.t 32)),iT 34 (.ld false 1 (.t 33)),iT 35 (.ixs 7 (.t 34) (cI 16)),iT 36 (.fad 6 (.t 35)),iT 37 (.ld false 1 (.t 36)),iT 38 (.build [.p (.i .i64 0),.p (.i .i64 0)] [(0,1,(cI 26)),(1,1,(.t 37))]),iN (.sto 2 (.l 2) (.t 38))]) (
 .ret)) (
 .skip))))) (
 .reg [
 iT 10 (.mv (.l 3)),iT 11 (.bin .add (.t 10) (cI 1)),iL 3 (.mv (.t 11))])))))) (
 .seq (.seq (.reg [
 iL 4 (.mv (cI 0))]) (
 .blk 2 (
 .loop (
 .seq (.seq (.reg [
 iT 39 (.mv (.l 4)),iT 40 (.fad 0 (.l 1)),iT 41 (.ld false 1 (.t 40)),iT 42 (.len false (.t 41)),iL 43 (.bin .lss (.t 39) (.t 42))]) (
 .cond (.l 43) (
 .skip) (
 .exit 2))) (
 .seq (.blk 3 (
 .seq (.drw [
 iT 46 (.fad 0 (.l 1)),iT 47 (.ld false 1 (.t 46)),iT 48 (.mv (.l 4)),iT 49 (.ixs 4 (.t 47) (.t 48)),iT 50 (.fad 0 (.t 49)),iT 51 (.ld false 1 (.t 50)),iT 52 (.call 65 [.t 51]),iT 53 (.bin .gtr (.t 52) (cI 0)),iT 54 (.mv (.t 53)),⟨.t 55,.ld true 8 (.l 1),some ((.t 54),false)⟩,⟨.t 56,.fad 0 (.l 1),some ((.t 54),false)⟩,⟨.t 57,.ld false 1 (.t 56),some ((.t 54),false)⟩,⟨.t 58,.mv (.l 4),some ((.t 54),false)⟩,⟨.t 59,.ixs 4 (.t 57) (.t 58),some ((.t 54),false)⟩,⟨.t 60,.fad 0 (.t 59),some ((.t 54),false)⟩,⟨.t 61,.ld false 1 (.t 60),some ((.t 54),false)⟩,⟨.t 62,.call 66 [.t 55,.t 61],some ((.t 54),false)⟩,⟨.t 63,.mv (.l 4),some ((.t 54),false)⟩] [
 ⟨.t 64,.bin .lss (.t 62) (.t 63),some ((.t 54),false)⟩,iL 65 (.pick (.t 54) (.c (.p (.b true))) (.t 64))]) (
 .cond (.l 65) (
 .seq (.reg [
 iT 66 (.fad 0 (.l 1)),iT 67 (.ld false 1 (.t 66)),iT 68 (.mv (.l 4)),iT 69 (.ixs 4 (.t 67) (.t 68)),iT 70 (.fad 3 (.t 69)),iT 71 (.ld false 1 (.t 70)),iT 72 (.build [.p (.i .i64 0),.p (.i .i64 0)] [(0,1,(cI 21)),(1,1,(.t 71))]),iN (.sto 2 (.l 2) (.t 72))]) (
 .ret)) (
 .skip)))) (
 .reg [
 iT 44 (.mv (.l 4)),iT 45 (.bin .add (.t 44) (cI 1)),iL 4 (.mv (.t 45))])))))) (
 .seq (.reg [
 iT 73 (.build [.p (.i .i64 0),.p (.i .i64 0)] []),iN (.sto 2 (.l 2) (.t 73))]) (
 .ret))))
theorem mc26_eq:(Tryz.f26.body.map (compile lv26 Tryz.prog 74))=some mc26:=by kernel_rfl
def mr26:List MR:=[.cell true 2 2]
theorem mr26_eq:cRess lv26 Tryz.prog Tryz.f26.results.toList=some mr26:=by kernel_rfl
theorem call26:CallT Tryz.prog 26 74 mc26 mr26:=acall_mc (by kernel_rfl) Tryz.func26 mc26_eq Tryz.ntmps26 (by kernel_rfl) mr26_eq
/- spec.l5Find -/
def lv27:List Nat:=[0,1,4,5,9,17]
def mc27:MC :=
.seq (.reg [
 iL 4 (.mv (cI 0))]) (
 .seq (.seq (.reg [
 iL 5 (.mv (cI 0))]) (
 .blk 0 (
 .loop (
 .seq (.seq (.reg [
 iT 6 (.mv (.l 5)),iT 7 (.mv (.l 0)),iT 8 (.len false (.t 7)),iL 9 (.bin .lss (.t 6) (.t 8))]) (
 .cond (.l 9) (
 .skip) (
 .exit 0))) (
 .seq (.blk 1 (
 .seq (.reg [
 iT 12 (.mv (.l 0)),iT 13 (.mv (.l 5)),iT 14 (.ixs 1 (.t 12) (.t 13)),iT 15 (.ld false 1 (.t 14)),iT 16 (.mv (.l 1)),iL 17 (.bin .eql (.t 15) (.t 16))]) (
 .cond (.l 17) (
 .seq (.reg [
 iT 18 (.mv (.l 5)),iL 4 (.mv (.t 18))]) (
 .ret)) (
 .skip)))) (
 .reg [
 iT 10 (.mv (.l 5)),iT 11 (.bin .add (.t 10) (cI 1)),iL 5 (.mv (.t 11))])))))) (
 .seq (.reg [
 iL 4 (.mv (cI (-1)))]) (
 .ret)))
theorem mc27_eq:(Tryz.f27.body.map (compile lv27 Tryz.prog 19))=some mc27:=by kernel_rfl
def mr27:List MR:=[.t 4]
theorem mr27_eq:cRess lv27 Tryz.prog Tryz.f27.results.toList=some mr27:=by kernel_rfl
theorem call27:CallT Tryz.prog 27 19 mc27 mr27:=acall_mc (by kernel_rfl) Tryz.func27 mc27_eq Tryz.ntmps27 (by kernel_rfl) mr27_eq
/- spec.l5Type -/
def lv28:List Nat:=[0,1,2,3,4,5,6,7,8,9,10,11,12,13,14,17,18,34,56,64,72,80,83,86,93,109]
def mc28t:MC :=
.seq (.seq (.reg [
 iL 12 (.mv (cI 0))]) (
 .blk 1 (
 .loop (
 .seq (.seq (.reg [
 iT 89 (.mv (.l 12)),iT 90 (.fad 3 (.l 5)),iT 91 (.ld false 1 (.t 90)),iT 92 (.len false (.t 91)),iL 93 (.bin .lss (.t 89) (.t 92))]) (
 .cond (.l 93) (
 .skip) (
 .exit 1))) (
 .seq (.blk 2 (
 .seq (.drw [
 iT 97 (.ld true 8 (.l 3)),iT 98 (.ld true 4 (.l 4)),iT 99 (.fad 3 (.l 5)),iT 100 (.ld false 1 (.t 99)),iT 101 (.mv (.l 12)),iT 102 (.ixs 4 (.t 100) (.t 101)),iT 103 (.ld true 4 (.t 102)),iT 104 (.call 28 [.t 97,.t 98,.t 103]),iT 96 (.mv (.t 104)),iT 105 (.ext (.t 96) 0),iT 106 (.ext (.t 96) 1),iL 13 (.alloc [.p (.i .i64 0),.p (.i .i64 0),.p (.s []),.p (.nl)]),iL 14 (.alloc [.p (.i .i64 0),.p (.i .i64 0)]),iN (.ston 4 (.l 13) (.t 105))] [
 iN (.sto 2 (.l 14) (.t 106))]) (
 .seq (.seq (.reg [
 iT 107 (.fad 0 (.l 14)),iT 108 (.ld false 1 (.t 107)),iL 109 (.bin .neq (.t 108) (cI 0))]) (
 .cond (.l 109) (
 .seq (.drw [
 iT 110 (.build [.p (.i .i64 0),.p (.i .i64 0),.p (.s []),.p (.nl)] []),iT 111 (.ld true 2 (.l 14)),iN (.sto 4 (.l 6) (.t 110))] [
 iN (.sto 2 (.l 7) (.t 111))]) (
 .ret)) (
 .skip))) (
 .reg [
 iT 112 (.fad 3 (.l 8)),iT 113 (.ld false 1 (.t 112)),iT 114 (.ld true 4 (.l 13)),iT 115 (.bsl 4 [.p (.i .i64 0),.p (.i .i64 0),.p (.s []),.p (.nl)] 1 [(0,(.t 114))]),iT 116 (.app 4 56 (.t 113) (.t 115)),iT 117 (.fad 3 (.l 8)),iN (.sto 1 (.t 117) (.t 116))])))) (
 .reg [
 iT 94 (.mv (.l 12)),iT 95 (.bin .add (.t 94) (cI 1)),iL 12 (.mv (.t 95))])))))) (
 .seq (.reg [
 iT 118 (.ld true 4 (.l 8)),iT 119 (.build [.p (.i .i64 0),.p (.i .i64 0)] []),iN (.sto 4 (.l 6) (.t 118)),iN (.sto 2 (.l 7) (.t 119))]) (
 .ret))
def mc28:MC :=
.seq (.reg [
 iL 3 (.box 8 (.l 0)),iL 4 (.box 4 (.l 1)),iL 5 (.box 4 (.l 2)),iL 6 (.alloc [.p (.i .i64 0),.p (.i .i64 0),.p (.s []),.p (.nl)]),iL 7 (.alloc [.p (.i .i64 0),.p (.i .i64 0)])]) (
 .seq (.reg [
 iT 15 (.build [.p (.i .i64 0),.p (.i .i64 0),.p (.s []),.p (.nl)] []),iL 8 (.alloc [.p (.i .i64 0),.p (.i .i64 0),.p (.s []),.p (.nl)]),iN (.sto 4 (.l 8) (.t 15))]) (
 .seq (.seq (.reg [
 iT 16 (.fad 0 (.l 5)),iL 17 (.ld false 1 (.t 16))]) (
 .blk 0 (
 .seq (.reg [
 iT 19 (.bin .eql (.l 17) (cI 1)),iL 18 (.mv (.t 19))]) (
 .cond (.l 18) (
 .seq (.reg [
 iT 20 (.fad 1 (.l 5)),iT 21 (.ld false 1 (.t 20)),iT 22 (.call 65 [.t 21]),iL 9 (.mv (.t 22))]) (
 .seq (.reg [
 iT 23 (.ld true 8 (.l 3)),iT 24 (.fad 1 (.l 5)),iT 25 (.ld false 1 (.t 24)),iT 26 (.call 66 [.t 23,.t 25]),iL 10 (.mv (.t 26))]) (
 .seq (.seq (.reg [
 iT 27 (.mv (.l 9)),iT 28 (.bin .gtr (.t 27) (cI 0)),iT 29 (.mv (.t 28)),⟨.t 30,.fad 3 (.l 5),some ((.t 29),true)⟩,⟨.t 31,.ld false 1 (.t 30),some ((.t 29),true)⟩,⟨.t 32,.len false (.t 31),some ((.t 29),true)⟩,⟨.t 33,.bin .eql (.t 32) (cI 0),some ((.t 29),true)⟩,iL 34 (.pick (.t 29) (.t 33) (.c (.p (.b false))))]) (
 .cond (.l 34) (
 .seq (.reg [
 iT 35 (.mv (.l 9)),iT 36 (.build [.p (.i .i64 0),.p (.i .i64 0),.p (.s []),.p (.nl)] [(0,1,(.t 35))]),iT 37 (.build [.p (.i .i64 0),.p (.i .i64 0)] []),iN (.sto 4 (.l 6) (.t 36)),iN (.sto 2 (.l 7) (.t 37))]) (
 .ret)) (
 .skip))) (
 .seq (.seq (.drw [
 iT 38 (.mv (.l 9)),iT 39 (.bin .gtr (.t 38) (cI 0)),iT 40 (.mv (.t 39)),⟨.t 41,.mv (.l 10),some ((.t 40),false)⟩,⟨.t 42,.bin .lss (.t 41) (cI 0),some ((.t 40),false)⟩,iT 43 (.pick (.t 40) (.c (.p (.b true))) (.t 42)),iT 44 (.mv (.t 43)),⟨.t 45,.fad 0 (.l 3),some ((.t 44),false)⟩,⟨.t 46,.ld false 1 (.t 45),some ((.t 44),false)⟩,⟨.t 47,.mv (.l 10),some ((.t 44),false)⟩,⟨.t 48,.ixs 4 (.t 46) (.t 47),some ((.t 44),false)⟩,⟨.t 49,.fad 1 (.t 48),some ((.t 44),false)⟩,⟨.t 50,.ld false 1 (.t 49),some ((.t 44),false)⟩,⟨.t 51,.lenq false (.t 50),some ((.t 44),false)⟩,⟨.t 52,.fad 3 (.l 5),some ((.t 44),false)⟩,⟨.t 53,.ld false 1 (.t 52),some ((.t 44),false)⟩,⟨.t 54,.lenq false (.t 53),some ((.t 44),false)⟩] [
 ⟨.t 55,.bin .neq (.t 51) (.t 54),some ((.t 44),false)⟩,iL 56 (.pick (.t 44) (.c (.p (.b true))) (.t 55))]) (
 .cond (.l 56) (
 .seq (.drw [
 iT 57 (.ld true 4 (.l 8)),iT 58 (.fad 2 (.l 5)),iT 59 (.ld false 1 (.t 58)),iT 60 (.build [.p (.i .i64 0),.p (.i .i64 0)] [(0,1,(cI 24)),(1,1,(.t 59))]),iN (.sto 4 (.l 6) (.t 57))] [
 iN (.sto 2 (.l 7) (.t 60))]) (
 .ret)) (
 .skip))) (
 .reg [
 iT 61 (.fad 1 (.l 5)),iT 62 (.ld false 1 (.t 61)),iT 63 (.build [.p (.i .i64 0),.p (.i .i64 0),.p (.s []),.p (.nl)] [(0,1,(cI 7)),(2,1,(.t 62))]),iN (.sto 4 (.l 8) (.t 63))]))))) (
 .seq (.reg [
 iT 65 (.bin .eql (.l 17) (cI 2)),iL 64 (.mv (.t 65))]) (
 .cond (.l 64) (
 .seq (.reg [
 iT 66 (.fad 1 (.l 4)),iT 67 (.ld false 1 (.t 66)),iT 68 (.fad 1 (.l 5)),iT 69 (.ld false 1 (.t 68)),iT 70 (.call 27 [.t 67,.t 69]),iL 11 (.mv (.t 70))]) (
 .seq (.seq (.reg [
 iT 71 (.mv (.l 11)),iL 72 (.bin .lss (.t 71) (cI 0))]) (
 .cond (.l 72) (
 .seq (.drw [
 iT 73 (.ld true 4 (.l 8)),iT 74 (.fad 2 (.l 5)),iT 75 (.ld false 1 (.t 74)),iT 76 (.build [.p (.i .i64 0),.p (.i .i64 0)] [(0,1,(cI 25)),(1,1,(.t 75))]),iN (.sto 4 (.l 6) (.t 73))] [
 iN (.sto 2 (.l 7) (.t 76))]) (
 .ret)) (
 .skip))) (
 .seq (.reg [
 iT 77 (.mv (.l 11)),iT 78 (.build [.p (.i .i64 0),.p (.i .i64 0),.p (.s []),.p (.nl)] [(0,1,(cI 10)),(1,1,(.t 77))]),iT 79 (.build [.p (.i .i64 0),.p (.i .i64 0)] []),iN (.sto 4 (.l 6) (.t 78)),iN (.sto 2 (.l 7) (.t 79))]) (
 .ret)))) (
 .seq (.reg [
 iT 81 (.bin .eql (.l 17) (cI 3)),iL 80 (.mv (.t 81))]) (
 .cond (.l 80) (
 .reg [
 iT 82 (.fad 0 (.l 8)),iN (.sto 1 (.t 82) (cI 5))]) (
 .seq (.reg [
 iT 84 (.bin .eql (.l 17) (cI 4)),iL 83 (.mv (.t 84))]) (
 .cond (.l 83) (
 .reg [
 iT 85 (.fad 0 (.l 8)),iN (.sto 1 (.t 85) (cI 6))]) (
 .seq (.reg [
 iT 87 (.bin .eql (.l 17) (cI 5)),iL 86 (.mv (.t 87))]) (
 .cond (.l 86) (
 .reg [
 iT 88 (.fad 0 (.l 8)),iN (.sto 1 (.t 88) (cI 8))]) (
 .skip))))))))))))) mc28t))
theorem mc28_eq:(Tryz.f28.body.map (compile lv28 Tryz.prog 120))=some mc28:=by kernel_rfl
def mr28:List MR:=[.cell true 4 6,.cell true 2 7]
theorem mr28_eq:cRess lv28 Tryz.prog Tryz.f28.results.toList=some mr28:=by kernel_rfl
theorem call28:CallT Tryz.prog 28 120 mc28 mr28:=acall_mc (by kernel_rfl) Tryz.func28 mc28_eq Tryz.ntmps28 (by kernel_rfl) mr28_eq
/- spec.l5CtorFault -/
/- spec.l5With -/
/- spec.l5Pat -/
/- spec.l1Low -/
def lv60:List Nat:=[0,2]
def mc60:MC :=
.seq (.reg [
 iL 2 (.mv (.c (.p (.b false))))]) (
 .seq (.reg [
 iT 3 (.mv (.l 0)),iT 4 (.call 61 [.t 3,.c (.p (.b false))]),iT 5 (.mv (.t 4)),⟨.t 6,.mv (.l 0),some ((.t 5),true)⟩,⟨.t 7,.call 92 [.t 6],some ((.t 5),true)⟩,⟨.t 8,.un .not (.t 7),some ((.t 5),true)⟩,iT 9 (.pick (.t 5) (.t 8) (.c (.p (.b false)))),iL 2 (.mv (.t 9))]) (
 .ret))
theorem mc60_eq:(Tryz.f60.body.map (compile lv60 Tryz.prog 10))=some mc60:=by kernel_rfl
def mr60:List MR:=[.t 2]
theorem mr60_eq:cRess lv60 Tryz.prog Tryz.f60.results.toList=some mr60:=by kernel_rfl
theorem call60:CallT Tryz.prog 60 10 mc60 mr60:=acall_mc (by kernel_rfl) Tryz.func60 mc60_eq Tryz.ntmps60 (by kernel_rfl) mr60_eq
/- spec.l1Name -/
def lv61:List Nat:=[0,1,4,5,28,32,40]
def mc61:MC :=
.seq (.reg [
 iL 4 (.mv (.c (.p (.b false))))]) (
 .seq (.seq (.reg [
 iT 6 (.mv (.l 0)),iT 7 (.len true (.t 6)),iT 8 (.call 93 [.t 7,.c (.p (.i .i64 1)),.c (.p (.i .i64 12))]),iT 9 (.un .not (.t 8)),iT 10 (.mv (.t 9)),⟨.t 11,.mv (.l 1),some ((.t 10),false)⟩,⟨.t 12,.mv (.l 0),some ((.t 10),false)⟩,⟨.t 13,.ixt (.t 12) (cI 0),some ((.t 10),false)⟩,⟨.t 14,.conv .i64 (.t 13),some ((.t 10),false)⟩,⟨.t 15,.call 94 [.t 14],some ((.t 10),false)⟩,⟨.t 16,.beq true (.t 11) (.t 15),some ((.t 10),false)⟩,iT 17 (.pick (.t 10) (.c (.p (.b true))) (.t 16)),iT 18 (.mv (.t 17)),⟨.t 19,.mv (.l 1),some ((.t 18),false)⟩,⟨.t 20,.un .not (.t 19),some ((.t 18),false)⟩,⟨.t 21,.mv (.t 20),some ((.t 18),false)⟩,⟨.t 22,.mv (.l 0),some ((.t 21),true)⟩,⟨.t 23,.ixt (.t 22) (cI 0),some ((.t 21),true)⟩,⟨.t 24,.conv .i64 (.t 23),some ((.t 21),true)⟩,⟨.t 25,.call 95 [.t 24],some ((.t 21),true)⟩,⟨.t 26,.un .not (.t 25),some ((.t 21),true)⟩,⟨.t 27,.pick (.t 21) (.t 26) (.c (.p (.b false))),some ((.t 18),false)⟩,iL 28 (.pick (.t 18) (.c (.p (.b true))) (.t 27))]) (
 .cond (.l 28) (
 .seq (.reg [
 iL 4 (.mv (.c (.p (.b false))))]) (
 .ret)) (
 .skip))) (
 .seq (.seq (.reg [
 iL 5 (.mv (cI 0))]) (
 .blk 0 (
 .loop (
 .seq (.seq (.reg [
 iT 29 (.mv (.l 5)),iT 30 (.mv (.l 0)),iT 31 (.len true (.t 30)),iL 32 (.bin .lss (.t 29) (.t 31))]) (
 .cond (.l 32) (
 .skip) (
 .exit 0))) (
 .seq (.blk 1 (
 .seq (.reg [
 iT 35 (.mv (.l 0)),iT 36 (.mv (.l 5)),iT 37 (.ixt (.t 35) (.t 36)),iT 38 (.conv .i64 (.t 37)),iT 39 (.call 96 [.t 38]),iL 40 (.un .not (.t 39))]) (
 .cond (.l 40) (
 .seq (.reg [
 iL 4 (.mv (.c (.p (.b false))))]) (
 .ret)) (
 .skip)))) (
 .reg [
 iT 33 (.mv (.l 5)),iT 34 (.bin .add (.t 33) (cI 1)),iL 5 (.mv (.t 34))])))))) (
 .seq (.reg [
 iL 4 (.mv (.c (.p (.b true))))]) (
 .ret))))
theorem mc61_eq:(Tryz.f61.body.map (compile lv61 Tryz.prog 41))=some mc61:=by kernel_rfl
def mr61:List MR:=[.t 4]
theorem mr61_eq:cRess lv61 Tryz.prog Tryz.f61.results.toList=some mr61:=by kernel_rfl
theorem call61:CallT Tryz.prog 61 41 mc61 mr61:=acall_mc (by kernel_rfl) Tryz.func61 mc61_eq Tryz.ntmps61 (by kernel_rfl) mr61_eq
/- spec.l2TypeOk -/
def lv62:List Nat:=[0,1,2,3,4,5,13,14,22,34,46,58,75]
def mc62:MC :=
.seq (.reg [
 iL 1 (.box 4 (.l 0)),iL 2 (.mv (.c (.p (.b false))))]) (
 .seq (.reg [
 iT 6 (.fad 3 (.l 1)),iT 7 (.ld false 1 (.t 6)),iT 8 (.len false (.t 7)),iL 3 (.mv (.t 8))]) (
 .seq (.reg [
 iT 9 (.fad 2 (.l 1)),iT 10 (.ld false 1 (.t 9)),iT 11 (.bin .geq (.t 10) (cI 0)),iL 4 (.mv (.t 11))]) (
 .seq (.seq (.reg [
 iT 12 (.fad 0 (.l 1)),iL 13 (.ld false 1 (.t 12))]) (
 .blk 0 (
 .seq (.reg [
 iT 15 (.bin .eql (.l 13) (cI 1)),iL 14 (.mv (.t 15))]) (
 .cond (.l 14) (
 .reg [
 iT 16 (.mv (.l 4)),iT 17 (.mv (.t 16)),⟨.t 18,.fad 1 (.l 1),some ((.t 17),true)⟩,⟨.t 19,.ld false 1 (.t 18),some ((.t 17),true)⟩,⟨.t 20,.call 60 [.t 19],some ((.t 17),true)⟩,iT 21 (.pick (.t 17) (.t 20) (.c (.p (.b false)))),iL 4 (.mv (.t 21))]) (
 .seq (.reg [
 iT 23 (.bin .eql (.l 13) (cI 2)),iL 22 (.mv (.t 23))]) (
 .cond (.l 22) (
 .reg [
 iT 24 (.mv (.l 4)),iT 25 (.mv (.t 24)),⟨.t 26,.fad 1 (.l 1),some ((.t 25),true)⟩,⟨.t 27,.ld false 1 (.t 26),some ((.t 25),true)⟩,⟨.t 28,.call 61 [.t 27,.c (.p (.b false))],some ((.t 25),true)⟩,iT 29 (.pick (.t 25) (.t 28) (.c (.p (.b false)))),iT 30 (.mv (.t 29)),⟨.t 31,.mv (.l 3),some ((.t 30),true)⟩,⟨.t 32,.bin .eql (.t 31) (cI 0),some ((.t 30),true)⟩,iT 33 (.pick (.t 30) (.t 32) (.c (.p (.b false)))),iL 4 (.mv (.t 33))]) (
 .seq (.reg [
 iT 35 (.bin .eql (.l 13) (cI 3)),iL 34 (.mv (.t 35))]) (
 .cond (.l 34) (
 .reg [
 iT 36 (.mv (.l 4)),iT 37 (.mv (.t 36)),⟨.t 38,.fad 1 (.l 1),some ((.t 37),true)⟩,⟨.t 39,.ld false 1 (.t 38),some ((.t 37),true)⟩,⟨.t 40,.bin .eql (.t 39) (.c (.p (.s []))),some ((.t 37),true)⟩,iT 41 (.pick (.t 37) (.t 40) (.c (.p (.b false)))),iT 42 (.mv (.t 41)),⟨.t 43,.mv (.l 3),some ((.t 42),true)⟩,⟨.t 44,.bin .eql (.t 43) (cI 2),some ((.t 42),true)⟩,iT 45 (.pick (.t 42) (.t 44) (.c (.p (.b false)))),iL 4 (.mv (.t 45))]) (
 .seq (.reg [
 iT 47 (.bin .eql (.l 13) (cI 4)),iL 46 (.mv (.t 47))]) (
 .cond (.l 46) (
 .reg [
 iT 48 (.mv (.l 4)),iT 49 (.mv (.t 48)),⟨.t 50,.fad 1 (.l 1),some ((.t 49),true)⟩,⟨.t 51,.ld false 1 (.t 50),some ((.t 49),true)⟩,⟨.t 52,.bin .eql (.t 51) (.c (.p (.s []))),some ((.t 49),true)⟩,iT 53 (.pick (.t 49) (.t 52) (.c (.p (.b false)))),iT 54 (.mv (.t 53)),⟨.t 55,.mv (.l 3),some ((.t 54),true)⟩,⟨.t 56,.bin .geq (.t 55) (cI 2),some ((.t 54),true)⟩,iT 57 (.pick (.t 54) (.t 56) (.c (.p (.b false)))),iL 4 (.mv (.t 57))]) (
 .seq (.reg [
 iT 59 (.bin .eql (.l 13) (cI 5)),iL 58 (.mv (.t 59))]) (
 .cond (.l 58) (
 .reg [
 iT 60 (.mv (.l 4)),iT 61 (.mv (.t 60)),⟨.t 62,.fad 1 (.l 1),some ((.t 61),true)⟩,⟨.t 63,.ld false 1 (.t 62),some ((.t 61),true)⟩,⟨.t 64,.bin .eql (.t 63) (.c (.p (.s []))),some ((.t 61),true)⟩,iT 65 (.pick (.t 61) (.t 64) (.c (.p (.b false)))),iT 66 (.mv (.t 65)),⟨.t 67,.mv (.l 3),some ((.t 66),true)⟩,⟨.t 68,.bin .eql (.t 67) (cI 1),some ((.t 66),true)⟩,iT 69 (.pick (.t 66) (.t 68) (.c (.p (.b false)))),iL 4 (.mv (.t 69))]) (
 .seq (.reg [
 iL 2 (.mv (.c (.p (.b false))))]) (
 .ret)))))))))))))) (
 .seq (.seq (.reg [
 iL 5 (.mv (cI 0))]) (
 .blk 1 (
 .loop (
 .seq (.seq (.reg [
 iT 70 (.mv (.l 5)),iT 71 (.mv (.l 3)),iT 72 (.bin .lss (.t 70) (.t 71)),iT 73 (.mv (.t 72)),⟨.t 74,.mv (.l 4),some ((.t 73),true)⟩,iL 75 (.pick (.t 73) (.t 74) (.c (.p (.b false))))]) (
 .cond (.l 75) (
 .skip) (
 .exit 1))) (
 .seq (.blk 2 (
 .reg [
 iT 78 (.fad 3 (.l 1)),iT 79 (.ld false 1 (.t 78)),iT 80 (.mv (.l 5)),iT 81 (.ixs 4 (.t 79) (.t 80)),iT 82 (.ld true 4 (.t 81)),iT 83 (.call 62 [.t 82]),iL 4 (.mv (.t 83))])) (
 .reg [
 iT 76 (.mv (.l 5)),iT 77 (.bin .add (.t 76) (cI 1)),iL 5 (.mv (.t 77))])))))) (
 .seq (.reg [
 iT 84 (.mv (.l 4)),iL 2 (.mv (.t 84))]) (
 .ret))))))
theorem mc62_eq:(Tryz.f62.body.map (compile lv62 Tryz.prog 85))=some mc62:=by kernel_rfl
def mr62:List MR:=[.t 2]
theorem mr62_eq:cRess lv62 Tryz.prog Tryz.f62.results.toList=some mr62:=by kernel_rfl
theorem call62:CallT Tryz.prog 62 85 mc62 mr62:=acall_mc (by kernel_rfl) Tryz.func62 mc62_eq Tryz.ntmps62 (by kernel_rfl) mr62_eq
/- spec.l2NoType -/
def lv63:List Nat:=[0,1,2]
def mc63:MC :=
.seq (.reg [
 iL 1 (.box 4 (.l 0)),iL 2 (.mv (.c (.p (.b false))))]) (
 .seq (.reg [
 iT 3 (.fad 0 (.l 1)),iT 4 (.ld false 1 (.t 3)),iT 5 (.bin .eql (.t 4) (cI 0)),iT 6 (.mv (.t 5)),⟨.t 7,.fad 1 (.l 1),some ((.t 6),true)⟩,⟨.t 8,.ld false 1 (.t 7),some ((.t 6),true)⟩,⟨.t 9,.bin .eql (.t 8) (.c (.p (.s []))),some ((.t 6),true)⟩,iT 10 (.pick (.t 6) (.t 9) (.c (.p (.b false)))),iT 11 (.mv (.t 10)),⟨.t 12,.fad 2 (.l 1),some ((.t 11),true)⟩,⟨.t 13,.ld false 1 (.t 12),some ((.t 11),true)⟩,⟨.t 14,.bin .eql (.t 13) (cI 0),some ((.t 11),true)⟩,iT 15 (.pick (.t 11) (.t 14) (.c (.p (.b false)))),iT 16 (.mv (.t 15)),⟨.t 17,.fad 3 (.l 1),some ((.t 16),true)⟩,⟨.t 18,.ld false 1 (.t 17),some ((.t 16),true)⟩,⟨.t 19,.len false (.t 18),some ((.t 16),true)⟩,⟨.t 20,.bin .eql (.t 19) (cI 0),some ((.t 16),true)⟩,iT 21 (.pick (.t 16) (.t 20) (.c (.p (.b false)))),iL 2 (.mv (.t 21))]) (
 .ret))
theorem mc63_eq:(Tryz.f63.body.map (compile lv63 Tryz.prog 22))=some mc63:=by kernel_rfl
def mr63:List MR:=[.t 2]
theorem mr63_eq:cRess lv63 Tryz.prog Tryz.f63.results.toList=some mr63:=by kernel_rfl
theorem call63:CallT Tryz.prog 63 22 mc63 mr63:=acall_mc (by kernel_rfl) Tryz.func63 mc63_eq Tryz.ntmps63 (by kernel_rfl) mr63_eq
/- spec.ExpOk -/
def lv64:List Nat:=[0,1,2,3,4,7,12,21,26,46]
def mc64:MC :=
.seq (.reg [
 iL 1 (.box 7 (.l 0)),iL 2 (.mv (.c (.p (.b false))))]) (
 .seq (.seq (.reg [
 iT 5 (.ld true 7 (.l 1)),iT 6 (.call 97 [.t 5]),iL 7 (.un .not (.t 6))]) (
 .cond (.l 7) (
 .seq (.reg [
 iL 2 (.mv (.c (.p (.b false))))]) (
 .ret)) (
 .skip))) (
 .seq (.seq (.reg [
 iL 3 (.mv (cI 0))]) (
 .blk 0 (
 .loop (
 .seq (.seq (.reg [
 iT 8 (.mv (.l 3)),iT 9 (.fad 5 (.l 1)),iT 10 (.ld false 1 (.t 9)),iT 11 (.len false (.t 10)),iL 12 (.bin .lss (.t 8) (.t 11))]) (
 .cond (.l 12) (
 .skip) (
 .exit 0))) (
 .seq (.blk 1 (
 .seq (.reg [
 iT 15 (.fad 5 (.l 1)),iT 16 (.ld false 1 (.t 15)),iT 17 (.mv (.l 3)),iT 18 (.ixs 7 (.t 16) (.t 17)),iT 19 (.ld true 7 (.t 18)),iT 20 (.call 64 [.t 19]),iL 21 (.un .not (.t 20))]) (
 .cond (.l 21) (
 .seq (.reg [
 iL 2 (.mv (.c (.p (.b false))))]) (
 .ret)) (
 .skip)))) (
 .reg [
 iT 13 (.mv (.l 3)),iT 14 (.bin .add (.t 13) (cI 1)),iL 3 (.mv (.t 14))])))))) (
 .seq (.seq (.reg [
 iL 4 (.mv (cI 0))]) (
 .blk 2 (
 .loop (
 .seq (.seq (.reg [
 iT 22 (.mv (.l 4)),iT 23 (.fad 6 (.l 1)),iT 24 (.ld false 1 (.t 23)),iT 25 (.len false (.t 24)),iL 26 (.bin .lss (.t 22) (.t 25))]) (
 .cond (.l 26) (
 .skip) (
 .exit 2))) (
 .seq (.blk 3 (
 .seq (.reg [
 iT 29 (.fad 6 (.l 1)),iT 30 (.ld false 1 (.t 29)),iT 31 (.mv (.l 4)),iT 32 (.ixs 12 (.t 30) (.t 31)),iT 33 (.fad 0 (.t 32)),iT 34 (.ld true 5 (.t 33)),iT 35 (.call 98 [.t 34]),iT 36 (.un .not (.t 35)),iT 37 (.mv (.t 36)),⟨.t 38,.fad 6 (.l 1),some ((.t 37),false)⟩,⟨.t 39,.ld false 1 (.t 38),some ((.t 37),false)⟩,⟨.t 40,.mv (.l 4),some ((.t 37),false)⟩,⟨.t 41,.ixs 12 (.t 39) (.t 40),some ((.t 37),false)⟩,⟨.t 42,.fad 5 (.t 41),some ((.t 37),false)⟩,⟨.t 43,.ld true 7 (.t 42),some ((.t 37),false)⟩,⟨.t 44,.call 64 [.t 43],some ((.t 37),false)⟩,⟨.t 45,.un .not (.t 44),some ((.t 37),false)⟩,iL 46 (.pick (.t 37) (.c (.p (.b true))) (.t 45))]) (
 .cond (.l 46) (
 .seq (.reg [
 iL 2 (.mv (.c (.p (.b false))))]) (
 .ret)) (
 .skip)))) (
 .reg [
 iT 27 (.mv (.l 4)),iT 28 (.bin .add (.t 27) (cI 1)),iL 4 (.mv (.t 28))])))))) (
 .seq (.reg [
 iL 2 (.mv (.c (.p (.b true))))]) (
 .ret)))))
theorem mc64_eq:(Tryz.f64.body.map (compile lv64 Tryz.prog 47))=some mc64:=by kernel_rfl
def mr64:List MR:=[.t 2]
theorem mr64_eq:cRess lv64 Tryz.prog Tryz.f64.results.toList=some mr64:=by kernel_rfl
theorem call64:CallT Tryz.prog 64 47 mc64 mr64:=acall_mc (by kernel_rfl) Tryz.func64 mc64_eq Tryz.ntmps64 (by kernel_rfl) mr64_eq
/- spec.l5Built -/
def lv65:List Nat:=[0,2,3,4,9,17]
def mc65:MC :=
.seq (.reg [
 iL 2 (.mv (cI 0))]) (
 .seq (.reg [
 iT 5 (.bsl 1 [.p (.s [])] 4 [(0,(.c (.p (.s [105,110,116])))),(1,(.c (.p (.s [98,111,111,108])))),(2,(.c (.p (.s [117,110,105,116])))),(3,(.c (.p (.s [115,116,114]))))]),iL 3 (.mv (.t 5))]) (
 .seq (.seq (.reg [
 iL 4 (.mv (cI 0))]) (
 .blk 0 (
 .loop (
 .seq (.seq (.reg [
 iT 6 (.mv (.l 4)),iT 7 (.mv (.l 3)),iT 8 (.len false (.t 7)),iL 9 (.bin .lss (.t 6) (.t 8))]) (
 .cond (.l 9) (
 .skip) (
 .exit 0))) (
 .seq (.blk 1 (
 .seq (.reg [
 iT 12 (.mv (.l 3)),iT 13 (.mv (.l 4)),iT 14 (.ixs 1 (.t 12) (.t 13)),iT 15 (.ld false 1 (.t 14)),iT 16 (.mv (.l 0)),iL 17 (.bin .eql (.t 15) (.t 16))]) (
 .cond (.l 17) (
 .seq (.reg [
 iT 18 (.mv (.l 4)),iT 19 (.bin .add (.t 18) (cI 1)),iL 2 (.mv (.t 19))]) (
 .ret)) (
 .skip)))) (
 .reg [
 iT 10 (.mv (.l 4)),iT 11 (.bin .add (.t 10) (cI 1)),iL 4 (.mv (.t 11))])))))) (
 .seq (.reg [
 iL 2 (.mv (cI 0))]) (
 .ret))))
theorem mc65_eq:(Tryz.f65.body.map (compile lv65 Tryz.prog 20))=some mc65:=by kernel_rfl
def mr65:List MR:=[.t 2]
theorem mr65_eq:cRess lv65 Tryz.prog Tryz.f65.results.toList=some mr65:=by kernel_rfl
theorem call65:CallT Tryz.prog 65 20 mc65 mr65:=acall_mc (by kernel_rfl) Tryz.func65 mc65_eq Tryz.ntmps65 (by kernel_rfl) mr65_eq
/- spec.l5Data -/
def lv66:List Nat:=[0,1,2,4,5,10,20]
def mc66:MC :=
.seq (.reg [
 iL 2 (.box 8 (.l 0)),iL 4 (.mv (cI 0))]) (
 .seq (.seq (.reg [
 iL 5 (.mv (cI 0))]) (
 .blk 0 (
 .loop (
 .seq (.seq (.reg [
 iT 6 (.mv (.l 5)),iT 7 (.fad 0 (.l 2)),iT 8 (.ld false 1 (.t 7)),iT 9 (.len false (.t 8)),iL 10 (.bin .lss (.t 6) (.t 9))]) (
 .cond (.l 10) (
 .skip) (
 .exit 0))) (
 .seq (.blk 1 (
 .seq (.reg [
 iT 13 (.fad 0 (.l 2)),iT 14 (.ld false 1 (.t 13)),iT 15 (.mv (.l 5)),iT 16 (.ixs 4 (.t 14) (.t 15)),iT 17 (.fad 0 (.t 16)),iT 18 (.ld false 1 (.t 17)),iT 19 (.mv (.l 1)),iL 20 (.bin .eql (.t 18) (.t 19))]) (
 .cond (.l 20) (
 .seq (.reg [
 iT 21 (.mv (.l 5)),iL 4 (.mv (.t 21))]) (
 .ret)) (
 .skip)))) (
 .reg [
 iT 11 (.mv (.l 5)),iT 12 (.bin .add (.t 11) (cI 1)),iL 5 (.mv (.t 12))])))))) (
 .seq (.reg [
 iL 4 (.mv (cI (-1)))]) (
 .ret)))
theorem mc66_eq:(Tryz.f66.body.map (compile lv66 Tryz.prog 22))=some mc66:=by kernel_rfl
def mr66:List MR:=[.t 4]
theorem mr66_eq:cRess lv66 Tryz.prog Tryz.f66.results.toList=some mr66:=by kernel_rfl
theorem call66:CallT Tryz.prog 66 22 mc66 mr66:=acall_mc (by kernel_rfl) Tryz.func66 mc66_eq Tryz.ntmps66 (by kernel_rfl) mr66_eq
/- spec.FindCtor -/
/- spec.l1Key -/
def lv92:List Nat:=[0,2,3,4,9,17]
def mc92:MC :=
.seq (.reg [
 iL 2 (.mv (.c (.p (.b false))))]) (
 .seq (.reg [
 iT 5 (.bsl 1 [.p (.s [])] 19 [(0,(.c (.p (.s [116,121,112,101])))),(1,(.c (.p (.s [111,102])))),(2,(.c (.p (.s [108,101,116])))),(3,(.c (.p (.s [114,101,99])))),(4,(.c (.p (.s [105,110])))),(5,(.c (.p (.s [102,117,110])))),(6,(.c (.p (.s [105,102])))),(7,(.c (.p (.s [116,104,101,110])))),(8,(.c (.p (.s [101,108,115,101])))),(9,(.c (.p (.s [109,97,116,99,104])))),(10,(.c (.p (.s [119,105,116,104])))),(11,(.c (.p (.s [101,110,100])))),(12,(.c (.p (.s [116,114,117,101])))),(13,(.c (.p (.s [102,97,108,115,101])))),(14,(.c (.p (.s [114,101,102])))),(15,(.c (.p (.s [114,101,97,100])))),(16,(.c (.p (.s [112,114,105,110,116])))),(17,(.c (.p (.s [101,120,105,116])))),(18,(.c (.p (.s [115,105,122,101]))))]),iL 3 (.mv (.t 5))]) (
 .seq (.seq (.reg [
 iL 4 (.mv (cI 0))]) (
 .blk 0 (
 .loop (
 .seq (.seq (.reg [
 iT 6 (.mv (.l 4)),iT 7 (.mv (.l 3)),iT 8 (.len false (.t 7)),iL 9 (.bin .lss (.t 6) (.t 8))]) (
 .cond (.l 9) (
 .skip) (
 .exit 0))) (
 .seq (.blk 1 (
 .seq (.reg [
 iT 12 (.mv (.l 3)),iT 13 (.mv (.l 4)),iT 14 (.ixs 1 (.t 12) (.t 13)),iT 15 (.ld false 1 (.t 14)),iT 16 (.mv (.l 0)),iL 17 (.bin .eql (.t 15) (.t 16))]) (
 .cond (.l 17) (
 .seq (.reg [
 iL 2 (.mv (.c (.p (.b true))))]) (
 .ret)) (
 .skip)))) (
 .reg [
 iT 10 (.mv (.l 4)),iT 11 (.bin .add (.t 10) (cI 1)),iL 4 (.mv (.t 11))])))))) (
 .seq (.reg [
 iL 2 (.mv (.c (.p (.b false))))]) (
 .ret))))
theorem mc92_eq:(Tryz.f92.body.map (compile lv92 Tryz.prog 18))=some mc92:=by kernel_rfl
def mr92:List MR:=[.t 2]
theorem mr92_eq:cRess lv92 Tryz.prog Tryz.f92.results.toList=some mr92:=by kernel_rfl
theorem call92 {args:List AV} {H:List AO} {Q:AV→List AO→Prop} (hla:args.length≤18):wpm (ACall Tryz.prog) mc92 (finK mr92 Q) ⟨argEnv 0 args,[],H⟩→ACall Tryz.prog 92 args H Q :=
 @acall_mc Tryz.prog (by kernel_rfl) 92 Tryz.f92 lv92 18 mc92 mr92 Tryz.func92 mc92_eq Tryz.ntmps92 (by kernel_rfl) mr92_eq args H Q hla
/- spec.l1In -/
def lv93:List Nat:=[0,1,2,6]
def mc93:MC :=
.seq (.reg [
 iL 6 (.mv (.c (.p (.b false))))]) (
 .seq (.reg [
 iT 7 (.mv (.l 0)),iT 8 (.mv (.l 1)),iT 9 (.bin .geq (.t 7) (.t 8)),iT 10 (.mv (.t 9)),⟨.t 11,.mv (.l 0),some ((.t 10),true)⟩,⟨.t 12,.mv (.l 2),some ((.t 10),true)⟩,⟨.t 13,.bin .leq (.t 11) (.t 12),some ((.t 10),true)⟩,iT 14 (.pick (.t 10) (.t 13) (.c (.p (.b false)))),iL 6 (.mv (.t 14))]) (
 .ret))
theorem mc93_eq:(Tryz.f93.body.map (compile lv93 Tryz.prog 15))=some mc93:=by kernel_rfl
def mr93:List MR:=[.t 6]
theorem mr93_eq:cRess lv93 Tryz.prog Tryz.f93.results.toList=some mr93:=by kernel_rfl
theorem call93:CallT Tryz.prog 93 15 mc93 mr93:=acall_mc (by kernel_rfl) Tryz.func93 mc93_eq Tryz.ntmps93 (by kernel_rfl) mr93_eq
/- spec.l1Upper -/
def lv94:List Nat:=[0,2]
def mc94:MC :=
.seq (.reg [
 iL 2 (.mv (.c (.p (.b false))))]) (
 .seq (.reg [
 iT 3 (.mv (.l 0)),iT 4 (.call 93 [.t 3,.c (.p (.i .i64 65)),.c (.p (.i .i64 90))]),iL 2 (.mv (.t 4))]) (
 .ret))
theorem mc94_eq:(Tryz.f94.body.map (compile lv94 Tryz.prog 5))=some mc94:=by kernel_rfl
def mr94:List MR:=[.t 2]
theorem mr94_eq:cRess lv94 Tryz.prog Tryz.f94.results.toList=some mr94:=by kernel_rfl
theorem call94:CallT Tryz.prog 94 5 mc94 mr94:=acall_mc (by kernel_rfl) Tryz.func94 mc94_eq Tryz.ntmps94 (by kernel_rfl) mr94_eq
/- spec.l1Lower -/
def lv95:List Nat:=[0,2]
def mc95:MC :=
.seq (.reg [
 iL 2 (.mv (.c (.p (.b false))))]) (
 .seq (.reg [
 iT 3 (.mv (.l 0)),iT 4 (.call 93 [.t 3,.c (.p (.i .i64 97)),.c (.p (.i .i64 122))]),iL 2 (.mv (.t 4))]) (
 .ret))
theorem mc95_eq:(Tryz.f95.body.map (compile lv95 Tryz.prog 5))=some mc95:=by kernel_rfl
def mr95:List MR:=[.t 2]
theorem mr95_eq:cRess lv95 Tryz.prog Tryz.f95.results.toList=some mr95:=by kernel_rfl
theorem call95:CallT Tryz.prog 95 5 mc95 mr95:=acall_mc (by kernel_rfl) Tryz.func95 mc95_eq Tryz.ntmps95 (by kernel_rfl) mr95_eq
/- spec.l1NameByte -/
def lv96:List Nat:=[0,2]
def mc96:MC :=
.seq (.reg [
 iL 2 (.mv (.c (.p (.b false))))]) (
 .seq (.reg [
 iT 3 (.mv (.l 0)),iT 4 (.call 95 [.t 3]),iT 5 (.mv (.t 4)),⟨.t 6,.mv (.l 0),some ((.t 5),false)⟩,⟨.t 7,.call 94 [.t 6],some ((.t 5),false)⟩,iT 8 (.pick (.t 5) (.c (.p (.b true))) (.t 7)),iT 9 (.mv (.t 8)),⟨.t 10,.mv (.l 0),some ((.t 9),false)⟩,⟨.t 11,.call 121 [.t 10],some ((.t 9),false)⟩,iT 12 (.pick (.t 9) (.c (.p (.b true))) (.t 11)),iT 13 (.mv (.t 12)),⟨.t 14,.mv (.l 0),some ((.t 13),false)⟩,⟨.t 15,.bin .eql (.t 14) (cI 95),some ((.t 13),false)⟩,iT 16 (.pick (.t 13) (.c (.p (.b true))) (.t 15)),iL 2 (.mv (.t 16))]) (
 .ret))
theorem mc96_eq:(Tryz.f96.body.map (compile lv96 Tryz.prog 17))=some mc96:=by kernel_rfl
def mr96:List MR:=[.t 2]
theorem mr96_eq:cRess lv96 Tryz.prog Tryz.f96.results.toList=some mr96:=by kernel_rfl
theorem call96:CallT Tryz.prog 96 17 mc96 mr96:=acall_mc (by kernel_rfl) Tryz.func96 mc96_eq Tryz.ntmps96 (by kernel_rfl) mr96_eq
/- spec.l2Node -/
def lv97:List Nat:=[0,1,2,3,8,9,22,35,48,56,69,82,90,103,111,124,142,150,164,177]
def mc97:MC :=
.seq (.reg [
 iL 1 (.box 7 (.l 0)),iL 2 (.mv (.c (.p (.b false))))]) (
 .seq (.reg [
 iT 4 (.fad 5 (.l 1)),iT 5 (.ld false 1 (.t 4)),iT 6 (.len false (.t 5)),iL 3 (.mv (.t 6))]) (
 .seq (.seq (.reg [
 iT 7 (.fad 0 (.l 1)),iL 8 (.ld false 1 (.t 7))]) (
 .blk 0 (
 .seq (.reg [
 iT 10 (.bin .eql (.l 8) (cI 1)),iL 9 (.mv (.t 10))]) (
 .cond (.l 9) (
 .seq (.reg [
 iT 11 (.ld true 7 (.l 1)),iT 12 (.call 122 [.t 11,.c (.p (.s [117]))]),iT 13 (.mv (.t 12)),⟨.t 14,.fad 2 (.l 1),some ((.t 13),true)⟩,⟨.t 15,.ld false 1 (.t 14),some ((.t 13),true)⟩,⟨.t 16,.bin .geq (.t 15) (cI 0),some ((.t 13),true)⟩,iT 17 (.pick (.t 13) (.t 16) (.c (.p (.b false)))),iT 18 (.mv (.t 17)),⟨.t 19,.mv (.l 3),some ((.t 18),true)⟩,⟨.t 20,.bin .eql (.t 19) (cI 0),some ((.t 18),true)⟩,iT 21 (.pick (.t 18) (.t 20) (.c (.p (.b false)))),iL 2 (.mv (.t 21))]) (
 .ret)) (
 .seq (.reg [
 iT 23 (.bin .eql (.l 8) (cI 2)),iL 22 (.mv (.t 23))]) (
 .cond (.l 22) (
 .seq (.reg [
 iT 24 (.ld true 7 (.l 1)),iT 25 (.call 122 [.t 24,.c (.p (.s [116]))]),iT 26 (.mv (.t 25)),⟨.t 27,.fad 3 (.l 1),some ((.t 26),true)⟩,⟨.t 28,.ld false 1 (.t 27),some ((.t 26),true)⟩,⟨.t 29,.call 123 [.t 28],some ((.t 26),true)⟩,iT 30 (.pick (.t 26) (.t 29) (.c (.p (.b false)))),iT 31 (.mv (.t 30)),⟨.t 32,.mv (.l 3),some ((.t 31),true)⟩,⟨.t 33,.bin .eql (.t 32) (cI 0),some ((.t 31),true)⟩,iT 34 (.pick (.t 31) (.t 33) (.c (.p (.b false)))),iL 2 (.mv (.t 34))]) (
 .ret)) (
 .seq (.reg [
 iT 36 (.bin .eql (.l 8) (cI 3)),iL 35 (.mv (.t 36))]) (
 .cond (.l 35) (
 .seq (.reg [
 iT 37 (.ld true 7 (.l 1)),iT 38 (.call 122 [.t 37,.c (.p (.s [117]))]),iT 39 (.mv (.t 38)),⟨.t 40,.fad 2 (.l 1),some ((.t 39),true)⟩,⟨.t 41,.ld false 1 (.t 40),some ((.t 39),true)⟩,⟨.t 42,.call 93 [.t 41,.c (.p (.i .i64 0)),.c (.p (.i .i64 1))],some ((.t 39),true)⟩,iT 43 (.pick (.t 39) (.t 42) (.c (.p (.b false)))),iT 44 (.mv (.t 43)),⟨.t 45,.mv (.l 3),some ((.t 44),true)⟩,⟨.t 46,.bin .eql (.t 45) (cI 0),some ((.t 44),true)⟩,iT 47 (.pick (.t 44) (.t 46) (.c (.p (.b false)))),iL 2 (.mv (.t 47))]) (
 .ret)) (
 .seq (.reg [
 iT 49 (.bin .eql (.l 8) (cI 4)),iL 48 (.mv (.t 49))]) (
 .cond (.l 48) (
 .seq (.reg [
 iT 50 (.ld true 7 (.l 1)),iT 51 (.call 122 [.t 50,.c (.p (.s []))]),iT 52 (.mv (.t 51)),⟨.t 53,.mv (.l 3),some ((.t 52),true)⟩,⟨.t 54,.bin .eql (.t 53) (cI 0),some ((.t 52),true)⟩,iT 55 (.pick (.t 52) (.t 54) (.c (.p (.b false)))),iL 2 (.mv (.t 55))]) (
 .ret)) (
 .seq (.reg [
 iT 57 (.bin .eql (.l 8) (cI 5)),iL 56 (.mv (.t 57))]) (
 .cond (.l 56) (
 .seq (.reg [
 iT 58 (.ld true 7 (.l 1)),iT 59 (.call 122 [.t 58,.c (.p (.s [110]))]),iT 60 (.mv (.t 59)),⟨.t 61,.fad 1 (.l 1),some ((.t 60),true)⟩,⟨.t 62,.ld false 1 (.t 61),some ((.t 60),true)⟩,⟨.t 63,.call 60 [.t 62],some ((.t 60),true)⟩,iT 64 (.pick (.t 60) (.t 63) (.c (.p (.b false)))),iT 65 (.mv (.t 64)),⟨.t 66,.mv (.l 3),some ((.t 65),true)⟩,⟨.t 67,.bin .eql (.t 66) (cI 0),some ((.t 65),true)⟩,iT 68 (.pick (.t 65) (.t 67) (.c (.p (.b false)))),iL 2 (.mv (.t 68))]) (
 .ret)) (
 .seq (.reg [
 iT 70 (.bin .eql (.l 8) (cI 6)),iL 69 (.mv (.t 70))]) (
 .cond (.l 69) (
 .seq (.reg [
 iT 71 (.ld true 7 (.l 1)),iT 72 (.call 122 [.t 71,.c (.p (.s [110]))]),iT 73 (.mv (.t 72)),⟨.t 74,.fad 1 (.l 1),some ((.t 73),true)⟩,⟨.t 75,.ld false 1 (.t 74),some ((.t 73),true)⟩,⟨.t 76,.call 61 [.t 75,.c (.p (.b true))],some ((.t 73),true)⟩,iT 77 (.pick (.t 73) (.t 76) (.c (.p (.b false)))),iT 78 (.mv (.t 77)),⟨.t 79,.mv (.l 3),some ((.t 78),true)⟩,⟨.t 80,.bin .leq (.t 79) (cI 1),some ((.t 78),true)⟩,iT 81 (.pick (.t 78) (.t 80) (.c (.p (.b false)))),iL 2 (.mv (.t 81))]) (
 .ret)) (
 .seq (.reg [
 iT 83 (.bin .eql (.l 8) (cI 7)),iL 82 (.mv (.t 83))]) (
 .cond (.l 82) (
 .seq (.reg [
 iT 84 (.ld true 7 (.l 1)),iT 85 (.call 122 [.t 84,.c (.p (.s []))]),iT 86 (.mv (.t 85)),⟨.t 87,.mv (.l 3),some ((.t 86),true)⟩,⟨.t 88,.bin .geq (.t 87) (cI 2),some ((.t 86),true)⟩,iT 89 (.pick (.t 86) (.t 88) (.c (.p (.b false)))),iL 2 (.mv (.t 89))]) (
 .ret)) (
 .seq (.reg [
 iT 91 (.bin .eql (.l 8) (cI 8)),iL 90 (.mv (.t 91))]) (
 .cond (.l 90) (
 .seq (.reg [
 iT 92 (.ld true 7 (.l 1)),iT 93 (.call 122 [.t 92,.c (.p (.s [110]))]),iT 94 (.mv (.t 93)),⟨.t 95,.fad 1 (.l 1),some ((.t 94),true)⟩,⟨.t 96,.ld false 1 (.t 95),some ((.t 94),true)⟩,⟨.t 97,.call 60 [.t 96],some ((.t 94),true)⟩,iT 98 (.pick (.t 94) (.t 97) (.c (.p (.b false)))),iT 99 (.mv (.t 98)),⟨.t 100,.mv (.l 3),some ((.t 99),true)⟩,⟨.t 101,.bin .eql (.t 100) (cI 1),some ((.t 99),true)⟩,iT 102 (.pick (.t 99) (.t 101) (.c (.p (.b false)))),iL 2 (.mv (.t 102))]) (
 .ret)) (
 .seq (.reg [
 iT 104 (.bin .eql (.l 8) (cI 9)),iL 103 (.mv (.t 104))]) (
 .cond (.l 103) (
 .seq (.reg [
 iT 105 (.ld true 7 (.l 1)),iT 106 (.call 122 [.t 105,.c (.p (.s []))]),iT 107 (.mv (.t 106)),⟨.t 108,.mv (.l 3),some ((.t 107),true)⟩,⟨.t 109,.bin .eql (.t 108) (cI 2),some ((.t 107),true)⟩,iT 110 (.pick (.t 107) (.t 109) (.c (.p (.b false)))),iL 2 (.mv (.t 110))]) (
 .ret)) (
 .seq (.reg [
 iT 112 (.bin .eql (.l 8) (cI 10)),iL 111 (.mv (.t 112))]) (
 .cond (.l 111) (
 .seq (.reg [
 iT 113 (.ld true 7 (.l 1)),iT 114 (.call 122 [.t 113,.c (.p (.s [110]))]),iT 115 (.mv (.t 114)),⟨.t 116,.fad 1 (.l 1),some ((.t 115),true)⟩,⟨.t 117,.ld false 1 (.t 116),some ((.t 115),true)⟩,⟨.t 118,.call 60 [.t 117],some ((.t 115),true)⟩,iT 119 (.pick (.t 115) (.t 118) (.c (.p (.b false)))),iT 120 (.mv (.t 119)),⟨.t 121,.mv (.l 3),some ((.t 120),true)⟩,⟨.t 122,.bin .eql (.t 121) (cI 2),some ((.t 120),true)⟩,iT 123 (.pick (.t 120) (.t 122) (.c (.p (.b false)))),iL 2 (.mv (.t 123))]) (
 .ret)) (
 .seq (.reg [
 iT 125 (.bin .eql (.l 8) (cI 11)),iL 124 (.mv (.t 125))]) (
 .cond (.l 124) (
 .seq (.reg [
 iT 126 (.ld true 7 (.l 1)),iT 127 (.call 122 [.t 126,.c (.p (.s [110,116]))]),iT 128 (.mv (.t 127)),⟨.t 129,.fad 1 (.l 1),some ((.t 128),true)⟩,⟨.t 130,.ld false 1 (.t 129),some ((.t 128),true)⟩,⟨.t 131,.call 60 [.t 130],some ((.t 128),true)⟩,iT 132 (.pick (.t 128) (.t 131) (.c (.p (.b false)))),iT 133 (.mv (.t 132)),⟨.t 134,.fad 3 (.l 1),some ((.t 133),true)⟩,⟨.t 135,.ld false 1 (.t 134),some ((.t 133),true)⟩,⟨.t 136,.call 60 [.t 135],some ((.t 133),true)⟩,iT 137 (.pick (.t 133) (.t 136) (.c (.p (.b false)))),iT 138 (.mv (.t 137)),⟨.t 139,.mv (.l 3),some ((.t 138),true)⟩,⟨.t 140,.bin .eql (.t 139) (cI 2),some ((.t 138),true)⟩,iT 141 (.pick (.t 138) (.t 140) (.c (.p (.b false)))),iL 2 (.mv (.t 141))]) (
 .ret)) (
 .seq (.reg [
 iT 143 (.bin .eql (.l 8) (cI 12)),iL 142 (.mv (.t 143))]) (
 .cond (.l 142) (
 .seq (.reg [
 iT 144 (.ld true 7 (.l 1)),iT 145 (.call 122 [.t 144,.c (.p (.s []))]),iT 146 (.mv (.t 145)),⟨.t 147,.mv (.l 3),some ((.t 146),true)⟩,⟨.t 148,.bin .eql (.t 147) (cI 3),some ((.t 146),true)⟩,iT 149 (.pick (.t 146) (.t 148) (.c (.p (.b false)))),iL 2 (.mv (.t 149))]) (
 .ret)) (
 .seq (.reg [
 iT 151 (.bin .eql (.l 8) (cI 13)),iL 150 (.mv (.t 151))]) (
 .cond (.l 150) (
 .seq (.reg [
 iT 152 (.ld true 7 (.l 1)),iT 153 (.call 122 [.t 152,.c (.p (.s []))]),iT 154 (.mv (.t 153)),⟨.t 155,.mv (.l 3),some ((.t 154),true)⟩,⟨.t 156,.bin .eql (.t 155) (cI 1),some ((.t 154),true)⟩,iT 157 (.pick (.t 154) (.t 156) (.c (.p (.b false)))),iT 158 (.mv (.t 157)),⟨.t 159,.fad 6 (.l 1),some ((.t 158),true)⟩,⟨.t 160,.ld false 1 (.t 159),some ((.t 158),true)⟩,⟨.t 161,.len false (.t 160),some ((.t 158),true)⟩,⟨.t 162,.bin .gtr (.t 161) (cI 0),some ((.t 158),true)⟩,iT 163 (.pick (.t 158) (.t 162) (.c (.p (.b false)))),iL 2 (.mv (.t 163))]) (
 .ret)) (
 .seq (.reg [
 iT 165 (.bin .eql (.l 8) (cI 14)),iL 164 (.mv (.t 165))]) (
 .cond (.l 164) (
 .seq (.reg [
 iT 166 (.ld true 7 (.l 1)),iT 167 (.call 122 [.t 166,.c (.p (.s [110]))]),iT 168 (.mv (.t 167)),⟨.t 169,.fad 1 (.l 1),some ((.t 168),true)⟩,⟨.t 170,.ld false 1 (.t 169),some ((.t 168),true)⟩,⟨.t 171,.call 124 [.t 170],some ((.t 168),true)⟩,iT 172 (.pick (.t 168) (.t 171) (.c (.p (.b false)))),iT 173 (.mv (.t 172)),⟨.t 174,.mv (.l 3),some ((.t 173),true)⟩,⟨.t 175,.bin .eql (.t 174) (cI 2),some ((.t 173),true)⟩,iT 176 (.pick (.t 173) (.t 175) (.c (.p (.b false)))),iL 2 (.mv (.t 176))]) (
 .ret)) (
 .seq (.reg [
 iT 178 (.bin .eql (.l 8) (cI 15)),iL 177 (.mv (.t 178))]) (
 .cond (.l 177) (
 .seq (.reg [
 iT 179 (.ld true 7 (.l 1)),iT 180 (.call 122 [.t 179,.c (.p (.s [110]))]),iT 181 (.mv (.t 180)),⟨.t 182,.fad 1 (.l 1),some ((.t 181),true)⟩,⟨.t 183,.ld false 1 (.t 182),some ((.t 181),true)⟩,⟨.t 184,.bin .eql (.t 183) (.c (.p (.s [114,101,97,100]))),some ((.t 181),true)⟩,⟨.t 185,.mv (.t 184),some ((.t 181),true)⟩,⟨.t 186,.mv (.l 3),some ((.t 185),true)⟩,⟨.t 187,.bin .eql (.t 186) (cI 0),some ((.t 185),true)⟩,⟨.t 188,.pick (.t 185) (.t 187) (.c (.p (.b false))),some ((.t 181),true)⟩,⟨.t 189,.mv (.t 188),some ((.t 181),true)⟩,⟨.t 190,.fad 1 (.l 1),some ((.t 189),false)⟩,⟨.t 191,.ld false 1 (.t 190),some ((.t 189),false)⟩,⟨.t 192,.call 125 [.t 191],some ((.t 189),false)⟩,⟨.t 193,.mv (.t 192),some ((.t 189),false)⟩,⟨.t 194,.mv (.l 3),some ((.t 193),true)⟩,⟨.t 195,.bin .eql (.t 194) (cI 1),some ((.t 193),true)⟩,⟨.t 196,.pick (.t 193) (.t 195) (.c (.p (.b false))),some ((.t 189),false)⟩,⟨.t 197,.pick (.t 189) (.c (.p (.b true))) (.t 196),some ((.t 181),true)⟩,iT 198 (.pick (.t 181) (.t 197) (.c (.p (.b false)))),iL 2 (.mv (.t 198))]) (
 .ret)) (
 .skip))))))))))))))))))))))))))))))))) (
 .seq (.reg [
 iL 2 (.mv (.c (.p (.b false))))]) (
 .ret))))
set_option maxHeartbeats 4000000 in
theorem mc97_eq:(Tryz.f97.body.map (compile lv97 Tryz.prog 199))=some mc97:=by kernel_rfl
def mr97:List MR:=[.t 2]
theorem mr97_eq:cRess lv97 Tryz.prog Tryz.f97.results.toList=some mr97:=by kernel_rfl
theorem call97:CallT Tryz.prog 97 199 mc97 mr97:=acall_mc (by kernel_rfl) Tryz.func97 mc97_eq Tryz.ntmps97 (by kernel_rfl) mr97_eq
/- spec.l2PatOk -/
def lv98:List Nat:=[0,1,2,3,4,5,6,7,21,22,36,51,66,81,94,114]
def mc98:MC :=
.seq (.reg [
 iL 1 (.box 5 (.l 0)),iL 2 (.mv (.c (.p (.b false))))]) (
 .seq (.reg [
 iT 8 (.fad 4 (.l 1)),iT 9 (.ld false 1 (.t 8)),iT 10 (.len false (.t 9)),iL 3 (.mv (.t 10))]) (
 .seq (.reg [
 iT 11 (.fad 3 (.l 1)),iT 12 (.ld false 1 (.t 11)),iT 13 (.bin .geq (.t 12) (cI 0)),iL 4 (.mv (.t 13))]) (
 .seq (.reg [
 iT 14 (.fad 1 (.l 1)),iT 15 (.ld false 1 (.t 14)),iT 16 (.bin .eql (.t 15) (.c (.p (.s [])))),iL 5 (.mv (.t 16))]) (
 .seq (.reg [
 iT 17 (.fad 2 (.l 1)),iT 18 (.ld false 1 (.t 17)),iT 19 (.bin .eql (.t 18) (cI 0)),iL 6 (.mv (.t 19))]) (
 .seq (.seq (.reg [
 iT 20 (.fad 0 (.l 1)),iL 21 (.ld false 1 (.t 20))]) (
 .blk 0 (
 .seq (.seq (.reg [
 iT 23 (.bin .eql (.l 21) (cI 1)),iL 22 (.mv (.t 23))]) (
 .cond (.l 22) (
 .skip) (
 .reg [
 iT 24 (.bin .eql (.l 21) (cI 5)),iL 22 (.mv (.t 24))]))) (
 .cond (.l 22) (
 .reg [
 iT 25 (.mv (.l 4)),iT 26 (.mv (.t 25)),⟨.t 27,.mv (.l 5),some ((.t 26),true)⟩,iT 28 (.pick (.t 26) (.t 27) (.c (.p (.b false)))),iT 29 (.mv (.t 28)),⟨.t 30,.mv (.l 6),some ((.t 29),true)⟩,iT 31 (.pick (.t 29) (.t 30) (.c (.p (.b false)))),iT 32 (.mv (.t 31)),⟨.t 33,.mv (.l 3),some ((.t 32),true)⟩,⟨.t 34,.bin .eql (.t 33) (cI 0),some ((.t 32),true)⟩,iT 35 (.pick (.t 32) (.t 34) (.c (.p (.b false)))),iL 4 (.mv (.t 35))]) (
 .seq (.reg [
 iT 37 (.bin .eql (.l 21) (cI 2)),iL 36 (.mv (.t 37))]) (
 .cond (.l 36) (
 .reg [
 iT 38 (.mv (.l 4)),iT 39 (.mv (.t 38)),⟨.t 40,.fad 1 (.l 1),some ((.t 39),true)⟩,⟨.t 41,.ld false 1 (.t 40),some ((.t 39),true)⟩,⟨.t 42,.call 60 [.t 41],some ((.t 39),true)⟩,iT 43 (.pick (.t 39) (.t 42) (.c (.p (.b false)))),iT 44 (.mv (.t 43)),⟨.t 45,.mv (.l 6),some ((.t 44),true)⟩,iT 46 (.pick (.t 44) (.t 45) (.c (.p (.b false)))),iT 47 (.mv (.t 46)),⟨.t 48,.mv (.l 3),some ((.t 47),true)⟩,⟨.t 49,.bin .eql (.t 48) (cI 0),some ((.t 47),true)⟩,iT 50 (.pick (.t 47) (.t 49) (.c (.p (.b false)))),iL 4 (.mv (.t 50))]) (
 .seq (.reg [
 iT 52 (.bin .eql (.l 21) (cI 3)),iL 51 (.mv (.t 52))]) (
 .cond (.l 51) (
 .reg [
 iT 53 (.mv (.l 4)),iT 54 (.mv (.t 53)),⟨.t 55,.mv (.l 5),some ((.t 54),true)⟩,iT 56 (.pick (.t 54) (.t 55) (.c (.p (.b false)))),iT 57 (.mv (.t 56)),⟨.t 58,.fad 2 (.l 1),some ((.t 57),true)⟩,⟨.t 59,.ld false 1 (.t 58),some ((.t 57),true)⟩,⟨.t 60,.bin .geq (.t 59) (cI 0),some ((.t 57),true)⟩,iT 61 (.pick (.t 57) (.t 60) (.c (.p (.b false)))),iT 62 (.mv (.t 61)),⟨.t 63,.mv (.l 3),some ((.t 62),true)⟩,⟨.t 64,.bin .eql (.t 63) (cI 0),some ((.t 62),true)⟩,iT 65 (.pick (.t 62) (.t 64) (.c (.p (.b false)))),iL 4 (.mv (.t 65))]) (
 .seq (.reg [
 iT 67 (.bin .eql (.l 21) (cI 4)),iL 66 (.mv (.t 67))]) (
 .cond (.l 66) (
 .reg [
 iT 68 (.mv (.l 4)),iT 69 (.mv (.t 68)),⟨.t 70,.mv (.l 5),some ((.t 69),true)⟩,iT 71 (.pick (.t 69) (.t 70) (.c (.p (.b false)))),iT 72 (.mv (.t 71)),⟨.t 73,.fad 2 (.l 1),some ((.t 72),true)⟩,⟨.t 74,.ld false 1 (.t 73),some ((.t 72),true)⟩,⟨.t 75,.call 93 [.t 74,.c (.p (.i .i64 0)),.c (.p (.i .i64 1))],some ((.t 72),true)⟩,iT 76 (.pick (.t 72) (.t 75) (.c (.p (.b false)))),iT 77 (.mv (.t 76)),⟨.t 78,.mv (.l 3),some ((.t 77),true)⟩,⟨.t 79,.bin .eql (.t 78) (cI 0),some ((.t 77),true)⟩,iT 80 (.pick (.t 77) (.t 79) (.c (.p (.b false)))),iL 4 (.mv (.t 80))]) (
 .seq (.reg [
 iT 82 (.bin .eql (.l 21) (cI 6)),iL 81 (.mv (.t 82))]) (
 .cond (.l 81) (
 .reg [
 iT 83 (.mv (.l 4)),iT 84 (.mv (.t 83)),⟨.t 85,.mv (.l 5),some ((.t 84),true)⟩,iT 86 (.pick (.t 84) (.t 85) (.c (.p (.b false)))),iT 87 (.mv (.t 86)),⟨.t 88,.mv (.l 6),some ((.t 87),true)⟩,iT 89 (.pick (.t 87) (.t 88) (.c (.p (.b false)))),iT 90 (.mv (.t 89)),⟨.t 91,.mv (.l 3),some ((.t 90),true)⟩,⟨.t 92,.bin .geq (.t 91) (cI 2),some ((.t 90),true)⟩,iT 93 (.pick (.t 90) (.t 92) (.c (.p (.b false)))),iL 4 (.mv (.t 93))]) (
 .seq (.reg [
 iT 95 (.bin .eql (.l 21) (cI 7)),iL 94 (.mv (.t 95))]) (
 .cond (.l 94) (
 .reg [
 iT 96 (.mv (.l 4)),iT 97 (.mv (.t 96)),⟨.t 98,.fad 1 (.l 1),some ((.t 97),true)⟩,⟨.t 99,.ld false 1 (.t 98),some ((.t 97),true)⟩,⟨.t 100,.call 61 [.t 99,.c (.p (.b true))],some ((.t 97),true)⟩,iT 101 (.pick (.t 97) (.t 100) (.c (.p (.b false)))),iT 102 (.mv (.t 101)),⟨.t 103,.mv (.l 6),some ((.t 102),true)⟩,iT 104 (.pick (.t 102) (.t 103) (.c (.p (.b false)))),iT 105 (.mv (.t 104)),⟨.t 106,.mv (.l 3),some ((.t 105),true)⟩,⟨.t 107,.bin .leq (.t 106) (cI 1),some ((.t 105),true)⟩,iT 108 (.pick (.t 105) (.t 107) (.c (.p (.b false)))),iL 4 (.mv (.t 108))]) (
 .seq (.reg [
 iL 2 (.mv (.c (.p (.b false))))]) (
 .ret)))))))))))))))) (
 .seq (.seq (.reg [
 iL 7 (.mv (cI 0))]) (
 .blk 1 (
 .loop (
 .seq (.seq (.reg [
 iT 109 (.mv (.l 7)),iT 110 (.mv (.l 3)),iT 111 (.bin .lss (.t 109) (.t 110)),iT 112 (.mv (.t 111)),⟨.t 113,.mv (.l 4),some ((.t 112),true)⟩,iL 114 (.pick (.t 112) (.t 113) (.c (.p (.b false))))]) (
 .cond (.l 114) (
 .skip) (
 .exit 1))) (
 .seq (.blk 2 (
 .reg [
 iT 117 (.fad 4 (.l 1)),iT 118 (.ld false 1 (.t 117)),iT 119 (.mv (.l 7)),iT 120 (.ixs 5 (.t 118) (.t 119)),iT 121 (.ld true 5 (.t 120)),iT 122 (.call 98 [.t 121]),iL 4 (.mv (.t 122))])) (
 .reg [
 iT 115 (.mv (.l 7)),iT 116 (.bin .add (.t 115) (cI 1)),iL 7 (.mv (.t 116))])))))) (
 .seq (.reg [
 iT 123 (.mv (.l 4)),iL 2 (.mv (.t 123))]) (
 .ret))))))))
set_option maxHeartbeats 4000000 in
theorem mc98_eq:(Tryz.f98.body.map (compile lv98 Tryz.prog 124))=some mc98:=by kernel_rfl
def mr98:List MR:=[.t 2]
theorem mr98_eq:cRess lv98 Tryz.prog Tryz.f98.results.toList=some mr98:=by kernel_rfl
theorem call98:CallT Tryz.prog 98 124 mc98 mr98:=acall_mc (by kernel_rfl) Tryz.func98 mc98_eq Tryz.ntmps98 (by kernel_rfl) mr98_eq
/- spec.l1Num -/
def lv121:List Nat:=[0,2]
def mc121:MC :=
.seq (.reg [
 iL 2 (.mv (.c (.p (.b false))))]) (
 .seq (.reg [
 iT 3 (.mv (.l 0)),iT 4 (.call 93 [.t 3,.c (.p (.i .i64 48)),.c (.p (.i .i64 57))]),iL 2 (.mv (.t 4))]) (
 .ret))
theorem mc121_eq:(Tryz.f121.body.map (compile lv121 Tryz.prog 5))=some mc121:=by kernel_rfl
def mr121:List MR:=[.t 2]
theorem mr121_eq:cRess lv121 Tryz.prog Tryz.f121.results.toList=some mr121:=by kernel_rfl
theorem call121:CallT Tryz.prog 121 5 mc121 mr121:=acall_mc (by kernel_rfl) Tryz.func121 mc121_eq Tryz.ntmps121 (by kernel_rfl) mr121_eq
/- spec.l2Plain -/
def lv122:List Nat:=[0,1,2,4,5,6,7,8,12]
def mc122:MC :=
.seq (.reg [
 iL 2 (.box 7 (.l 0)),iL 4 (.mv (.c (.p (.b false))))]) (
 .seq (.reg [
 iL 5 (.mv (.c (.p (.b false)))),iL 6 (.mv (.c (.p (.b false)))),iL 7 (.mv (.c (.p (.b false))))]) (
 .seq (.seq (.reg [
 iL 8 (.mv (cI 0))]) (
 .blk 0 (
 .loop (
 .seq (.seq (.reg [
 iT 9 (.mv (.l 8)),iT 10 (.mv (.l 1)),iT 11 (.len true (.t 10)),iL 12 (.bin .lss (.t 9) (.t 11))]) (
 .cond (.l 12) (
 .skip) (
 .exit 0))) (
 .seq (.blk 1 (
 .seq (.reg [
 iT 15 (.mv (.l 5)),iT 16 (.mv (.t 15)),⟨.t 17,.mv (.l 1),some ((.t 16),false)⟩,⟨.t 18,.mv (.l 8),some ((.t 16),false)⟩,⟨.t 19,.ixt (.t 17) (.t 18),some ((.t 16),false)⟩,⟨.t 20,.bin .eql (.t 19) (.c (.p (.i .u8 110))),some ((.t 16),false)⟩,iT 21 (.pick (.t 16) (.c (.p (.b true))) (.t 20)),iL 5 (.mv (.t 21))]) (
 .seq (.reg [
 iT 22 (.mv (.l 6)),iT 23 (.mv (.t 22)),⟨.t 24,.mv (.l 1),some ((.t 23),false)⟩,⟨.t 25,.mv (.l 8),some ((.t 23),false)⟩,⟨.t 26,.ixt (.t 24) (.t 25),some ((.t 23),false)⟩,⟨.t 27,.bin .eql (.t 26) (.c (.p (.i .u8 117))),some ((.t 23),false)⟩,iT 28 (.pick (.t 23) (.c (.p (.b true))) (.t 27)),iL 6 (.mv (.t 28))]) (
 .reg [
 iT 29 (.mv (.l 7)),iT 30 (.mv (.t 29)),⟨.t 31,.mv (.l 1),some ((.t 30),false)⟩,⟨.t 32,.mv (.l 8),some ((.t 30),false)⟩,⟨.t 33,.ixt (.t 31) (.t 32),some ((.t 30),false)⟩,⟨.t 34,.bin .eql (.t 33) (.c (.p (.i .u8 116))),some ((.t 30),false)⟩,iT 35 (.pick (.t 30) (.c (.p (.b true))) (.t 34)),iL 7 (.mv (.t 35))])))) (
 .reg [
 iT 13 (.mv (.l 8)),iT 14 (.bin .add (.t 13) (cI 1)),iL 8 (.mv (.t 14))])))))) (
 .seq (.reg [
 iT 36 (.fad 4 (.l 2)),iT 37 (.ld false 1 (.t 36)),iT 38 (.bin .geq (.t 37) (cI 0)),iT 39 (.mv (.t 38)),⟨.t 40,.mv (.l 5),some ((.t 39),true)⟩,⟨.t 41,.mv (.t 40),some ((.t 39),true)⟩,⟨.t 42,.fad 1 (.l 2),some ((.t 41),false)⟩,⟨.t 43,.ld false 1 (.t 42),some ((.t 41),false)⟩,⟨.t 44,.bin .eql (.t 43) (.c (.p (.s []))),some ((.t 41),false)⟩,⟨.t 45,.pick (.t 41) (.c (.p (.b true))) (.t 44),some ((.t 39),true)⟩,iT 46 (.pick (.t 39) (.t 45) (.c (.p (.b false)))),iT 47 (.mv (.t 46)),⟨.t 48,.mv (.l 6),some ((.t 47),true)⟩,⟨.t 49,.mv (.t 48),some ((.t 47),true)⟩,⟨.t 50,.fad 2 (.l 2),some ((.t 49),false)⟩,⟨.t 51,.ld false 1 (.t 50),some ((.t 49),false)⟩,⟨.t 52,.bin .eql (.t 51) (cI 0),some ((.t 49),false)⟩,⟨.t 53,.pick (.t 49) (.c (.p (.b true))) (.t 52),some ((.t 47),true)⟩,iT 54 (.pick (.t 47) (.t 53) (.c (.p (.b false)))),iT 55 (.mv (.t 54)),⟨.t 56,.mv (.l 7),some ((.t 55),true)⟩,⟨.t 57,.mv (.t 56),some ((.t 55),true)⟩,⟨.t 58,.fad 3 (.l 2),some ((.t 57),false)⟩,⟨.t 59,.ld false 1 (.t 58),some ((.t 57),false)⟩,⟨.t 60,.bin .eql (.t 59) (.c (.p (.s []))),some ((.t 57),false)⟩,⟨.t 61,.pick (.t 57) (.c (.p (.b true))) (.t 60),some ((.t 55),true)⟩,iT 62 (.pick (.t 55) (.t 61) (.c (.p (.b false)))),iT 63 (.mv (.t 62)),⟨.t 64,.fad 0 (.l 2),some ((.t 63),true)⟩,⟨.t 65,.ld false 1 (.t 64),some ((.t 63),true)⟩,⟨.t 66,.bin .eql (.t 65) (cI 13),some ((.t 63),true)⟩,⟨.t 67,.mv (.t 66),some ((.t 63),true)⟩,⟨.t 68,.fad 6 (.l 2),some ((.t 67),false)⟩,⟨.t 69,.ld false 1 (.t 68),some ((.t 67),false)⟩,⟨.t 70,.len false (.t 69),some ((.t 67),false)⟩,⟨.t 71,.bin .eql (.t 70) (cI 0),some ((.t 67),false)⟩,⟨.t 72,.pick (.t 67) (.c (.p (.b true))) (.t 71),some ((.t 63),true)⟩,iT 73 (.pick (.t 63) (.t 72) (.c (.p (.b false)))),iL 4 (.mv (.t 73))]) (
 .ret))))
theorem mc122_eq:(Tryz.f122.body.map (compile lv122 Tryz.prog 74))=some mc122:=by kernel_rfl
def mr122:List MR:=[.t 4]
theorem mr122_eq:cRess lv122 Tryz.prog Tryz.f122.results.toList=some mr122:=by kernel_rfl
theorem call122:CallT Tryz.prog 122 74 mc122 mr122:=acall_mc (by kernel_rfl) Tryz.func122 mc122_eq Tryz.ntmps122 (by kernel_rfl) mr122_eq
/- spec.l1Chars -/
def lv123:List Nat:=[0,2,3,7,21]
def mc123:MC :=
.seq (.reg [
 iL 2 (.mv (.c (.p (.b false))))]) (
 .seq (.seq (.reg [
 iL 3 (.mv (cI 0))]) (
 .blk 0 (
 .loop (
 .seq (.seq (.reg [
 iT 4 (.mv (.l 3)),iT 5 (.mv (.l 0)),iT 6 (.len true (.t 5)),iL 7 (.bin .lss (.t 4) (.t 6))]) (
 .cond (.l 7) (
 .skip) (
 .exit 0))) (
 .seq (.blk 1 (
 .seq (.reg [
 iT 10 (.mv (.l 0)),iT 11 (.mv (.l 3)),iT 12 (.ixt (.t 10) (.t 11)),iT 13 (.bin .neq (.t 12) (.c (.p (.i .u8 10)))),iT 14 (.mv (.t 13)),⟨.t 15,.mv (.l 0),some ((.t 14),true)⟩,⟨.t 16,.mv (.l 3),some ((.t 14),true)⟩,⟨.t 17,.ixt (.t 15) (.t 16),some ((.t 14),true)⟩,⟨.t 18,.conv .i64 (.t 17),some ((.t 14),true)⟩,⟨.t 19,.call 93 [.t 18,.c (.p (.i .i64 32)),.c (.p (.i .i64 126))],some ((.t 14),true)⟩,⟨.t 20,.un .not (.t 19),some ((.t 14),true)⟩,iL 21 (.pick (.t 14) (.t 20) (.c (.p (.b false))))]) (
 .cond (.l 21) (
 .seq (.reg [
 iL 2 (.mv (.c (.p (.b false))))]) (
 .ret)) (
 .skip)))) (
 .reg [
 iT 8 (.mv (.l 3)),iT 9 (.bin .add (.t 8) (cI 1)),iL 3 (.mv (.t 9))])))))) (
 .seq (.reg [
 iL 2 (.mv (.c (.p (.b true))))]) (
 .ret)))
theorem mc123_eq:(Tryz.f123.body.map (compile lv123 Tryz.prog 22))=some mc123:=by kernel_rfl
def mr123:List MR:=[.t 2]
theorem mr123_eq:cRess lv123 Tryz.prog Tryz.f123.results.toList=some mr123:=by kernel_rfl
theorem call123:CallT Tryz.prog 123 22 mc123 mr123:=acall_mc (by kernel_rfl) Tryz.func123 mc123_eq Tryz.ntmps123 (by kernel_rfl) mr123_eq
/- spec.l2Op -/
def lv124:List Nat:=[0,2]
def mc124:MC :=
.seq (.reg [
 iL 2 (.mv (.c (.p (.b false))))]) (
 .seq (.reg [
 iT 3 (.mv (.l 0)),iT 4 (.bin .eql (.t 3) (.c (.p (.s [43])))),iT 5 (.mv (.t 4)),⟨.t 6,.mv (.l 0),some ((.t 5),false)⟩,⟨.t 7,.bin .eql (.t 6) (.c (.p (.s [45]))),some ((.t 5),false)⟩,iT 8 (.pick (.t 5) (.c (.p (.b true))) (.t 7)),iT 9 (.mv (.t 8)),⟨.t 10,.mv (.l 0),some ((.t 9),false)⟩,⟨.t 11,.bin .eql (.t 10) (.c (.p (.s [42]))),some ((.t 9),false)⟩,iT 12 (.pick (.t 9) (.c (.p (.b true))) (.t 11)),iT 13 (.mv (.t 12)),⟨.t 14,.mv (.l 0),some ((.t 13),false)⟩,⟨.t 15,.bin .eql (.t 14) (.c (.p (.s [94]))),some ((.t 13),false)⟩,iT 16 (.pick (.t 13) (.c (.p (.b true))) (.t 15)),iT 17 (.mv (.t 16)),⟨.t 18,.mv (.l 0),some ((.t 17),false)⟩,⟨.t 19,.bin .eql (.t 18) (.c (.p (.s [61]))),some ((.t 17),false)⟩,iT 20 (.pick (.t 17) (.c (.p (.b true))) (.t 19)),iT 21 (.mv (.t 20)),⟨.t 22,.mv (.l 0),some ((.t 21),false)⟩,⟨.t 23,.bin .eql (.t 22) (.c (.p (.s [60]))),some ((.t 21),false)⟩,iT 24 (.pick (.t 21) (.c (.p (.b true))) (.t 23)),iT 25 (.mv (.t 24)),⟨.t 26,.mv (.l 0),some ((.t 25),false)⟩,⟨.t 27,.bin .eql (.t 26) (.c (.p (.s [58,61]))),some ((.t 25),false)⟩,iT 28 (.pick (.t 25) (.c (.p (.b true))) (.t 27)),iL 2 (.mv (.t 28))]) (
 .ret))
theorem mc124_eq:(Tryz.f124.body.map (compile lv124 Tryz.prog 29))=some mc124:=by kernel_rfl
def mr124:List MR:=[.t 2]
theorem mr124_eq:cRess lv124 Tryz.prog Tryz.f124.results.toList=some mr124:=by kernel_rfl
theorem call124:CallT Tryz.prog 124 29 mc124 mr124:=acall_mc (by kernel_rfl) Tryz.func124 mc124_eq Tryz.ntmps124 (by kernel_rfl) mr124_eq
/- spec.l2Prim -/
def lv125:List Nat:=[0,2]
def mc125:MC :=
.seq (.reg [
 iL 2 (.mv (.c (.p (.b false))))]) (
 .seq (.reg [
 iT 3 (.mv (.l 0)),iT 4 (.bin .eql (.t 3) (.c (.p (.s [112,114,105,110,116])))),iT 5 (.mv (.t 4)),⟨.t 6,.mv (.l 0),some ((.t 5),false)⟩,⟨.t 7,.bin .eql (.t 6) (.c (.p (.s [101,120,105,116]))),some ((.t 5),false)⟩,iT 8 (.pick (.t 5) (.c (.p (.b true))) (.t 7)),iT 9 (.mv (.t 8)),⟨.t 10,.mv (.l 0),some ((.t 9),false)⟩,⟨.t 11,.bin .eql (.t 10) (.c (.p (.s [115,105,122,101]))),some ((.t 9),false)⟩,iT 12 (.pick (.t 9) (.c (.p (.b true))) (.t 11)),iT 13 (.mv (.t 12)),⟨.t 14,.mv (.l 0),some ((.t 13),false)⟩,⟨.t 15,.bin .eql (.t 14) (.c (.p (.s [114,101,102]))),some ((.t 13),false)⟩,iT 16 (.pick (.t 13) (.c (.p (.b true))) (.t 15)),iT 17 (.mv (.t 16)),⟨.t 18,.mv (.l 0),some ((.t 17),false)⟩,⟨.t 19,.bin .eql (.t 18) (.c (.p (.s [33]))),some ((.t 17),false)⟩,iT 20 (.pick (.t 17) (.c (.p (.b true))) (.t 19)),iL 2 (.mv (.t 20))]) (
 .ret))
theorem mc125_eq:(Tryz.f125.body.map (compile lv125 Tryz.prog 21))=some mc125:=by kernel_rfl
def mr125:List MR:=[.t 2]
theorem mr125_eq:cRess lv125 Tryz.prog Tryz.f125.results.toList=some mr125:=by kernel_rfl
theorem call125:CallT Tryz.prog 125 21 mc125 mr125:=acall_mc (by kernel_rfl) Tryz.func125 mc125_eq Tryz.ntmps125 (by kernel_rfl) mr125_eq
end Go.Proofs.YtnelfbcgplooiaaGreat.Mc
/- THE SMALL CODES of functions 8 12 22 29 30 31 32 33 34 35 36 52 53 54 55 56 67 68 69 70 71 72 87 99 100 101 102 103 104 105 106 107 108 109 117 118 126 127 128 129 130 131 132 133 134 135 136 137 138 146 147 148, and their ties to the program (printed by wip/tools/mkties2.py). -/
set_option linter.all false
namespace Go.Proofs.YtnelfbcgplooiaaGreat.Mc
open Go.AM
def zl8_0:List AV:=[.p (.nl),.p (.i .i64 0),.p (.s []),.p (.i .i64 0),.p (.s []),.p (.i .i64 0),.p (.nl),.p (.nl),.p (.nl),.p (.i .i64 0),.p (.i .i64 0)]
def zl8_1:List AV:=[.p (.i .i64 0),.p (.s []),.p (.i .i64 0),.p (.s []),.p (.i .i64 0),.p (.nl),.p (.nl)]
def zl8_2:List AV:=[.p (.i .i64 0),.p (.s []),.p (.i .i64 0),.p (.i .i64 0),.p (.nl),.p (.i .i64 0),.p (.s []),.p (.i .i64 0),.p (.s []),.p (.i .i64 0),.p (.nl),.p (.nl)]
def zl8_3:List AV:=[.p (.s []),.p (.b false),.p (.i .i64 0),.p (.s []),.p (.i .i64 0),.p (.nl),.p (.i .i64 0)]
def zl8_4:List AV:=[.p (.s []),.p (.b false),.p (.i .i64 0),.p (.i .i64 0),.p (.s []),.p (.nl)]
/- impl.Scope -/
/- impl.Table -/
def lv12:List Nat:=[0,1,2,3,4,5,6,7,8,10,13,21,22,23,24,40,47,48,49,50,65]
def mc12:MC :=
.seq (.reg [
 iL 1 (.box 8 (.l 0)),iL 2 (.mv (.c (.p (.nl)))),iL 3 (.alloc [.p (.i .i64 0),.p (.i .i64 0)])]) (
 .seq (.seq (.reg [
 iT 11 (.ld true 8 (.l 1)),iT 12 (.call 29 [.t 11]),iL 13 (.un .not (.t 12))]) (
 .cond (.l 13) (
 .seq (.reg [
 iT 14 (.build [.p (.i .i64 0),.p (.i .i64 0)] [(0,1,(cI 20))]),iL 2 (.mv (.c (.p (.nl)))),iN (.sto 2 (.l 3) (.t 14))]) (
 .ret)) (
 .skip))) (
 .seq (.drw [
 iT 15 (.ld true 8 (.l 1)),iT 16 (.ld true 8 (.l 1)),iT 17 (.call 30 [.t 16])] [
 iT 18 (.build zl8_0 [(0,8,(.t 15)),(9,2,(.t 17))]),iT 19 (.box 11 (.t 18)),iL 4 (.mv (.t 19))]) (
 .seq (.seq (.reg [
 iT 20 (.fad 0 (.l 1)),iL 21 (.ld false 1 (.t 20)),iL 22 (.len false (.l 21)),iL 23 (.mv (cI 0))]) (
 .blk 0 (
 .loop (
 .seq (.reg [
 iL 24 (.bin .lss (.l 23) (.l 22))]) (
 .seq (.cond (.l 24) (
 .skip) (
 .exit 0)) (
 .seq (.blk 1 (
 .seq (.reg [
 iT 25 (.mv (.l 23)),iT 26 (.ixs 4 (.l 21) (.l 23)),iT 27 (.ld true 4 (.t 26)),iL 6 (.alloc [.p (.s []),.p (.nl),.p (.nl),.p (.i .i64 0)]),iL 5 (.mv (.t 25)),iN (.sto 4 (.l 6) (.t 27))]) (
 .seq (.reg [
 iT 28 (.fad 0 (.l 1)),iT 29 (.ld false 1 (.t 28)),iT 30 (.mv (.l 5)),iT 31 (.slc (some 4) (.t 29) none (some (.t 30))),iT 32 (.mkf 32 [.l 6]),iT 33 (.call 31 [.t 31,.t 32]),iL 7 (.mv (.t 33))]) (
 .seq (.drw [
 iT 34 (.mv (.l 7)),iT 35 (.mv (.t 34)),⟨.t 36,.call 34 [],some ((.t 35),false)⟩,⟨.t 37,.fad 0 (.l 6),some ((.t 35),false)⟩,⟨.t 38,.ld false 1 (.t 37),some ((.t 35),false)⟩] [
 ⟨.t 39,.call 33 [.t 36,.t 38],some ((.t 35),false)⟩,iL 40 (.pick (.t 35) (.c (.p (.b true))) (.t 39))]) (
 .cond (.l 40) (
 .reg [
 iT 41 (.mv (.l 4)),iT 42 (.fad 3 (.l 6)),iT 43 (.ld false 1 (.t 42)),iT 44 (.call 35 [.t 41,.c (.p (.i .i64 21)),.t 43])]) (
 .skip)))))) (
 .reg [
 iT 45 (.bin .add (.l 23) (cI 1)),iL 23 (.mv (.t 45))]))))))) (
 .seq (.reg [
 iL 8 (.mv (.c (.p (.nl))))]) (
 .seq (.seq (.reg [
 iT 46 (.fad 0 (.l 1)),iL 47 (.ld false 1 (.t 46)),iL 48 (.len false (.l 47)),iL 49 (.mv (cI 0))]) (
 .blk 2 (
 .loop (
 .seq (.reg [
 iL 50 (.bin .lss (.l 49) (.l 48))]) (
 .seq (.cond (.l 50) (
 .skip) (
 .exit 2)) (
 .seq (.blk 3 (
 .seq (.reg [
 iT 51 (.ixs 4 (.l 47) (.l 49)),iT 52 (.ld true 4 (.t 51)),iL 10 (.alloc [.p (.s []),.p (.nl),.p (.nl),.p (.i .i64 0)]),iN (.sto 4 (.l 10) (.t 52))]) (
 .reg [
 iT 53 (.mv (.l 8)),iT 54 (.mv (.l 4)),iT 55 (.ld true 4 (.l 10)),iT 56 (.call 36 [.t 54,.t 55]),iT 57 (.bsl 3 [.p (.s []),.p (.i .i64 0),.p (.nl)] 1 [(0,(.t 56))]),iT 58 (.app 3 48 (.t 53) (.t 57)),iL 8 (.mv (.t 58))]))) (
 .reg [
 iT 59 (.bin .add (.l 49) (cI 1)),iL 49 (.mv (.t 59))]))))))) (
 .seq (.seq (.reg [
 iT 60 (.mv (.l 4)),iT 61 (.nilc (.t 60)),iT 62 (.fad 9 (.t 61)),iT 63 (.fad 0 (.t 62)),iT 64 (.ld false 1 (.t 63)),iL 65 (.bin .neq (.t 64) (cI 0))]) (
 .cond (.l 65) (
 .seq (.drw [
 iT 66 (.mv (.l 4)),iT 67 (.nilc (.t 66)),iT 68 (.fad 9 (.t 67)),iT 69 (.ld true 2 (.t 68)),iL 2 (.mv (.c (.p (.nl))))] [
 iN (.sto 2 (.l 3) (.t 69))]) (
 .ret)) (
 .skip))) (
 .seq (.reg [
 iT 70 (.mv (.l 8)),iT 71 (.build [.p (.i .i64 0),.p (.i .i64 0)] []),iL 2 (.mv (.t 70)),iN (.sto 2 (.l 3) (.t 71))]) (
 .ret))))))))
theorem mc12_eq:(Tryz.f12.body.map (compile lv12 Tryz.prog 72))=some mc12:=by kernel_rfl
def mr12:List MR:=[.t 2,.cell true 2 3]
theorem mr12_eq:cRess lv12 Tryz.prog Tryz.f12.results.toList=some mr12:=by kernel_rfl
theorem call12:CallT Tryz.prog 12 72 mc12 mr12:=acall_mc (by kernel_rfl) Tryz.func12 mc12_eq Tryz.ntmps12 (by kernel_rfl) mr12_eq
/- (*impl.scoper).exp -/
/- impl.ProgOk -/
def lv29:List Nat:=[0,1,2]
def mc29:MC :=
.seq (.reg [
 iL 1 (.box 8 (.l 0)),iL 2 (.mv (.c (.p (.b false))))]) (
 .seq (.reg [
 iT 3 (.fad 1 (.l 1)),iT 4 (.ld true 7 (.t 3)),iT 5 (.call 67 [.t 4]),iT 6 (.mv (.t 5)),⟨.t 7,.fad 0 (.l 1),some ((.t 6),true)⟩,⟨.t 8,.ld false 1 (.t 7),some ((.t 6),true)⟩,⟨.t 9,.call 31 [.t 8,.c (.clo 68 [])],some ((.t 6),true)⟩,⟨.t 10,.un .not (.t 9),some ((.t 6),true)⟩,iT 11 (.pick (.t 6) (.t 10) (.c (.p (.b false)))),iL 2 (.mv (.t 11))]) (
 .ret))
theorem mc29_eq:(Tryz.f29.body.map (compile lv29 Tryz.prog 12))=some mc29:=by kernel_rfl
def mr29:List MR:=[.t 2]
theorem mr29_eq:cRess lv29 Tryz.prog Tryz.f29.results.toList=some mr29:=by kernel_rfl
theorem call29:CallT Tryz.prog 29 12 mc29 mr29:=acall_mc (by kernel_rfl) Tryz.func29 mc29_eq Tryz.ntmps29 (by kernel_rfl) mr29_eq
/- impl.tooMany -/
def lv30:List Nat:=[0,1,2,3,4,6,7,8,9,14,21]
def mc30:MC :=
.seq (.reg [
 iL 1 (.box 8 (.l 0)),iL 2 (.alloc [.p (.i .i64 0),.p (.i .i64 0)])]) (
 .seq (.seq (.reg [
 iT 5 (.fad 0 (.l 1)),iL 6 (.ld false 1 (.t 5)),iL 7 (.len false (.l 6)),iL 8 (.mv (cI 0))]) (
 .blk 0 (
 .loop (
 .seq (.reg [
 iL 9 (.bin .lss (.l 8) (.l 7))]) (
 .seq (.cond (.l 9) (
 .skip) (
 .exit 0)) (
 .seq (.blk 1 (
 .seq (.reg [
 iT 10 (.mv (.l 8)),iT 11 (.ixs 4 (.l 6) (.l 8)),iT 12 (.ld true 4 (.t 11)),iL 4 (.alloc [.p (.s []),.p (.nl),.p (.nl),.p (.i .i64 0)]),iL 3 (.mv (.t 10)),iN (.sto 4 (.l 4) (.t 12))]) (
 .seq (.seq (.reg [
 iT 13 (.mv (.l 3)),iL 14 (.bin .eql (.t 13) (cI 12))]) (
 .cond (.l 14) (
 .seq (.reg [
 iT 15 (.fad 3 (.l 4)),iT 16 (.ld false 1 (.t 15)),iT 17 (.build [.p (.i .i64 0),.p (.i .i64 0)] [(0,1,(cI 26)),(1,1,(.t 16))]),iN (.sto 2 (.l 2) (.t 17))]) (
 .ret)) (
 .skip))) (
 .seq (.reg [
 iT 18 (.fad 2 (.l 4)),iT 19 (.ld false 1 (.t 18)),iT 20 (.len false (.t 19)),iL 21 (.bin .gtr (.t 20) (cI 16))]) (
 .cond (.l 21) (
 .seq (.reg [
 iT 22 (.fad 2 (.l 4)),iT 23 (.ld false 1 (.t 22)),iT 24 (.ixs 7 (.t 23) (cI 16)),iT 25 (.fad 6 (.t 24)),iT 26 (.ld false 1 (.t 25)),iT 27 (.build [.p (.i .i64 0),.p (.i .i64 0)] [(0,1,(cI 26)),(1,1,(.t 26))]),iN (.sto 2 (.l 2) (.t 27))]) (
 .ret)) (
 .skip)))))) (
 .reg [
 iT 28 (.bin .add (.l 8) (cI 1)),iL 8 (.mv (.t 28))]))))))) (
 .seq (.reg [
 iT 29 (.build [.p (.i .i64 0),.p (.i .i64 0)] []),iN (.sto 2 (.l 2) (.t 29))]) (
 .ret)))
theorem mc30_eq:(Tryz.f30.body.map (compile lv30 Tryz.prog 30))=some mc30:=by kernel_rfl
def mr30:List MR:=[.cell true 2 2]
theorem mr30_eq:cRess lv30 Tryz.prog Tryz.f30.results.toList=some mr30:=by kernel_rfl
theorem call30:CallT Tryz.prog 30 30 mc30 mr30:=acall_mc (by kernel_rfl) Tryz.func30 mc30_eq Tryz.ntmps30 (by kernel_rfl) mr30_eq
/- slices.ContainsFunc[[]impl.Data,impl.Data] -/
def lv31:List Nat:=[0,1,4]
def mc31:MC :=
.seq (.reg [
 iL 4 (.mv (.c (.p (.b false))))]) (
 .seq (.reg [
 iT 5 (.mv (.l 0)),iT 6 (.mv (.l 1)),iT 7 (.call 70 [.t 5,.t 6]),iT 8 (.bin .geq (.t 7) (cI 0)),iL 4 (.mv (.t 8))]) (
 .ret))
theorem mc31_eq:(Tryz.f31.body.map (compile lv31 Tryz.prog 9))=some mc31:=by kernel_rfl
def mr31:List MR:=[.t 4]
theorem mr31_eq:cRess lv31 Tryz.prog Tryz.f31.results.toList=some mr31:=by kernel_rfl
theorem call31:CallT Tryz.prog 31 9 mc31 mr31:=acall_mc (by kernel_rfl) Tryz.func31 mc31_eq Tryz.ntmps31 (by kernel_rfl) mr31_eq
/- impl.Table$1 -/
def lv32:List Nat:=[0,1,2,3]
def mc32:MC :=
.seq (.reg [
 iL 2 (.box 4 (.l 0)),iL 3 (.mv (.c (.p (.b false))))]) (
 .seq (.reg [
 iT 4 (.fad 0 (.l 2)),iT 5 (.ld false 1 (.t 4)),iT 6 (.fad 0 (.l 1)),iT 7 (.ld false 1 (.t 6)),iT 8 (.bin .eql (.t 5) (.t 7)),iL 3 (.mv (.t 8))]) (
 .ret))
theorem mc32_eq:(Tryz.f32.body.map (compile lv32 Tryz.prog 9))=some mc32:=by kernel_rfl
def mr32:List MR:=[.t 3]
theorem mr32_eq:cRess lv32 Tryz.prog Tryz.f32.results.toList=some mr32:=by kernel_rfl
theorem call32:CallT Tryz.prog 32 9 mc32 mr32:=acall_mc (by kernel_rfl) Tryz.func32 mc32_eq Tryz.ntmps32 (by kernel_rfl) mr32_eq
/- slices.Contains[[]string,string] -/
def lv33:List Nat:=[0,1,4]
def mc33:MC :=
.seq (.reg [
 iL 4 (.mv (.c (.p (.b false))))]) (
 .seq (.reg [
 iT 5 (.mv (.l 0)),iT 6 (.mv (.l 1)),iT 7 (.call 71 [.t 5,.t 6]),iT 8 (.bin .geq (.t 7) (cI 0)),iL 4 (.mv (.t 8))]) (
 .ret))
theorem mc33_eq:(Tryz.f33.body.map (compile lv33 Tryz.prog 9))=some mc33:=by kernel_rfl
def mr33:List MR:=[.t 4]
theorem mr33_eq:cRess lv33 Tryz.prog Tryz.f33.results.toList=some mr33:=by kernel_rfl
theorem call33:CallT Tryz.prog 33 9 mc33 mr33:=acall_mc (by kernel_rfl) Tryz.func33 mc33_eq Tryz.ntmps33 (by kernel_rfl) mr33_eq
/- impl.fourTypes -/
def lv34:List Nat:=[0]
def mc34:MC :=
.seq (.reg [
 iL 0 (.mv (.c (.p (.nl))))]) (
 .seq (.reg [
 iT 1 (.bsl 1 [.p (.s [])] 4 [(0,(.c (.p (.s [105,110,116])))),(1,(.c (.p (.s [98,111,111,108])))),(2,(.c (.p (.s [117,110,105,116])))),(3,(.c (.p (.s [115,116,114]))))]),iL 0 (.mv (.t 1))]) (
 .ret))
theorem mc34_eq:(Tryz.f34.body.map (compile lv34 Tryz.prog 2))=some mc34:=by kernel_rfl
def mr34:List MR:=[.t 0]
theorem mr34_eq:cRess lv34 Tryz.prog Tryz.f34.results.toList=some mr34:=by kernel_rfl
theorem call34:CallT Tryz.prog 34 2 mc34 mr34:=acall_mc (by kernel_rfl) Tryz.func34 mc34_eq Tryz.ntmps34 (by kernel_rfl) mr34_eq
/- (*impl.tableMaker).fail -/
def lv35:List Nat:=[0,1,2,11]
def mc35:MC :=
.seq (.reg [
 iT 6 (.mv (.l 0)),iT 7 (.nilc (.t 6)),iT 8 (.fad 9 (.t 7)),iT 9 (.fad 0 (.t 8)),iT 10 (.ld false 1 (.t 9)),iL 11 (.bin .eql (.t 10) (cI 0))]) (
 .cond (.l 11) (
 .reg [
 iT 12 (.mv (.l 0)),iT 13 (.mv (.l 1)),iT 14 (.mv (.l 2)),iT 15 (.build [.p (.i .i64 0),.p (.i .i64 0)] [(0,1,(.t 13)),(1,1,(.t 14))]),iT 16 (.nilc (.t 12)),iT 17 (.fad 9 (.t 16)),iN (.sto 2 (.t 17) (.t 15))]) (
 .skip))
theorem mc35_eq:(Tryz.f35.body.map (compile lv35 Tryz.prog 18))=some mc35:=by kernel_rfl
def mr35:List MR:=[]
theorem mr35_eq:cRess lv35 Tryz.prog Tryz.f35.results.toList=some mr35:=by kernel_rfl
theorem call35:CallT Tryz.prog 35 18 mc35 mr35:=acall_mc (by kernel_rfl) Tryz.func35 mc35_eq Tryz.ntmps35 (by kernel_rfl) mr35_eq
/- (*impl.tableMaker).data -/
def lv36:List Nat:=[0,1,3,4,5,6,7,9,10,18,19,20,21,30,37,38,39,40,49,71]
def mc36d:MC :=
.reg [
 iT 78 (.fad 2 (.l 5)),iT 79 (.ld false 1 (.t 78)),iT 80 (.ld true 6 (.l 10)),iT 81 (.bsl 6 zl8_4 1 [(0,(.t 80))]),iT 82 (.app 6 80 (.t 79) (.t 81)),iT 83 (.fad 2 (.l 5)),iN (.sto 1 (.t 83) (.t 82))]
def mc36c:MC :=
.seq (.reg [
 iT 65 (.fad 0 (.l 9)),iT 66 (.ld false 1 (.t 65)),iT 67 (.fad 1 (.l 9)),iT 68 (.ld false 1 (.t 67)),iT 69 (.build zl8_4 [(0,1,(.t 66)),(1,1,(.t 68))]),iL 10 (.alloc zl8_4),iN (.sto 6 (.l 10) (.t 69))]) (
 .seq (.seq (.reg [
 iT 70 (.fad 1 (.l 9)),iL 71 (.ld false 1 (.t 70))]) (
 .cond (.l 71) (
 .reg [
 iT 72 (.mv (.l 0)),iT 73 (.ld true 4 (.l 3)),iT 74 (.fad 2 (.l 9)),iT 75 (.ld true 4 (.t 74)),iT 76 (.call 72 [.t 72,.t 73,.t 75]),iT 77 (.fad 2 (.l 10)),iN (.sto 4 (.t 77) (.t 76))]) (
 .skip))) mc36d)
def mc36b:MC :=
.seq (.drw [
 iT 54 (.mv (.l 0)),iT 55 (.mv (.l 0)),iT 56 (.nilc (.t 55)),iT 57 (.fad 8 (.t 56)),iT 58 (.ld false 1 (.t 57)),iT 59 (.fad 0 (.l 9)),iT 60 (.ld false 1 (.t 59)),iT 61 (.bsl 1 [.p (.s [])] 1 [(0,(.t 60))]),iT 62 (.appn 1 16 (.t 58) (.t 61))] [
 iT 63 (.nilc (.t 54)),iT 64 (.fad 8 (.t 63)),iN (.sto 1 (.t 64) (.t 62))]) mc36c
def mc36a:MC :=
.seq (.seq (.reg [
 iT 36 (.fad 2 (.l 3)),iL 37 (.ld false 1 (.t 36)),iL 38 (.len false (.l 37)),iL 39 (.mv (cI 0))]) (
 .blk 2 (
 .loop (
 .seq (.reg [
 iL 40 (.bin .lss (.l 39) (.l 38))]) (
 .seq (.cond (.l 40) (
 .skip) (
 .exit 2)) (
 .seq (.blk 3 (
 .seq (.reg [
 iT 41 (.ixs 7 (.l 37) (.l 39)),iT 42 (.ld true 7 (.t 41)),iL 9 (.alloc zl8_3),iN (.sto 7 (.l 9) (.t 42))]) (
 .seq (.seq (.drw [
 iT 43 (.mv (.l 0)),iT 44 (.nilc (.t 43)),iT 45 (.fad 8 (.t 44)),iT 46 (.ld false 1 (.t 45)),iT 47 (.fad 0 (.l 9)),iT 48 (.ld false 1 (.t 47))] [
 iL 49 (.call 33 [.t 46,.t 48])]) (
 .cond (.l 49) (
 .reg [
 iT 50 (.mv (.l 0)),iT 51 (.fad 6 (.l 9)),iT 52 (.ld false 1 (.t 51)),iT 53 (.call 35 [.t 50,.c (.p (.i .i64 23)),.t 52])]) (
 .skip))) mc36b))) (
 .reg [
 iT 84 (.bin .add (.l 39) (cI 1)),iL 39 (.mv (.t 84))]))))))) (
 .seq (.reg [
 iT 85 (.ld true 3 (.l 5)),iN (.sto 3 (.l 4) (.t 85))]) (
 .ret))
def mc36:MC :=
.seq (.reg [
 iL 3 (.box 4 (.l 1)),iL 4 (.alloc [.p (.s []),.p (.i .i64 0),.p (.nl)])]) (
 .seq (.reg [
 iT 11 (.fad 0 (.l 3)),iT 12 (.ld false 1 (.t 11)),iT 13 (.fad 1 (.l 3)),iT 14 (.ld false 1 (.t 13)),iT 15 (.len false (.t 14)),iT 16 (.build [.p (.s []),.p (.i .i64 0),.p (.nl)] [(0,1,(.t 12)),(1,1,(.t 15))]),iL 5 (.alloc [.p (.s []),.p (.i .i64 0),.p (.nl)]),iN (.sto 3 (.l 5) (.t 16))]) (
 .seq (.seq (.reg [
 iT 17 (.fad 1 (.l 3)),iL 18 (.ld false 1 (.t 17)),iL 19 (.len false (.l 18)),iL 20 (.mv (cI 0))]) (
 .blk 0 (
 .loop (
 .seq (.reg [
 iL 21 (.bin .lss (.l 20) (.l 19))]) (
 .seq (.cond (.l 21) (
 .skip) (
 .exit 0)) (
 .seq (.blk 1 (
 .seq (.reg [
 iT 22 (.mv (.l 20)),iT 23 (.ixs 1 (.l 18) (.l 20)),iT 24 (.ld false 1 (.t 23)),iL 6 (.mv (.t 22)),iL 7 (.mv (.t 24))]) (
 .seq (.reg [
 iT 25 (.fad 1 (.l 3)),iT 26 (.ld false 1 (.t 25)),iT 27 (.mv (.l 6)),iT 28 (.slc (some 1) (.t 26) none (some (.t 27))),iT 29 (.mv (.l 7)),iL 30 (.call 33 [.t 28,.t 29])]) (
 .cond (.l 30) (
 .reg [
 iT 31 (.mv (.l 0)),iT 32 (.fad 3 (.l 3)),iT 33 (.ld false 1 (.t 32)),iT 34 (.call 35 [.t 31,.c (.p (.i .i64 22)),.t 33])]) (
 .skip))))) (
 .reg [
 iT 35 (.bin .add (.l 20) (cI 1)),iL 20 (.mv (.t 35))]))))))) mc36a))
theorem mc36_eq:(Tryz.f36.body.map (compile lv36 Tryz.prog 86))=some mc36:=by kernel_rfl
def mr36:List MR:=[.cell true 3 4]
theorem mr36_eq:cRess lv36 Tryz.prog Tryz.f36.results.toList=some mr36:=by kernel_rfl
theorem call36:CallT Tryz.prog 36 86 mc36 mr36:=acall_mc (by kernel_rfl) Tryz.func36 mc36_eq Tryz.ntmps36 (by kernel_rfl) mr36_eq
/- (*impl.scoper).fail -/
/- (*impl.scoper).ctor -/
/- slices.Concat[[]string,string] -/
/- impl.bindsIn -/
/- (*impl.scoper).pat -/
/- impl.ExpOk -/
def lv67:List Nat:=[0,1,2,4,6,9,11,12,13,14,19,22,23,24,25,37]
def mc67:MC :=
.seq (.reg [
 iL 1 (.box 7 (.l 0)),iL 2 (.mv (.c (.p (.b false))))]) (
 .seq (.seq (.reg [
 iT 7 (.ld true 7 (.l 1)),iT 8 (.call 99 [.t 7]),iL 9 (.un .not (.t 8))]) (
 .cond (.l 9) (
 .seq (.reg [
 iL 2 (.mv (.c (.p (.b false))))]) (
 .ret)) (
 .skip))) (
 .seq (.seq (.reg [
 iT 10 (.fad 5 (.l 1)),iL 11 (.ld false 1 (.t 10)),iL 12 (.len false (.l 11)),iL 13 (.mv (cI 0))]) (
 .blk 0 (
 .loop (
 .seq (.reg [
 iL 14 (.bin .lss (.l 13) (.l 12))]) (
 .seq (.cond (.l 14) (
 .skip) (
 .exit 0)) (
 .seq (.blk 1 (
 .seq (.reg [
 iT 15 (.ixs 7 (.l 11) (.l 13)),iT 16 (.ld true 7 (.t 15)),iL 4 (.alloc zl8_1),iN (.sto 7 (.l 4) (.t 16))]) (
 .seq (.reg [
 iT 17 (.ld true 7 (.l 4)),iT 18 (.call 67 [.t 17]),iL 19 (.un .not (.t 18))]) (
 .cond (.l 19) (
 .seq (.reg [
 iL 2 (.mv (.c (.p (.b false))))]) (
 .ret)) (
 .skip))))) (
 .reg [
 iT 20 (.bin .add (.l 13) (cI 1)),iL 13 (.mv (.t 20))]))))))) (
 .seq (.seq (.reg [
 iT 21 (.fad 6 (.l 1)),iL 22 (.ld false 1 (.t 21)),iL 23 (.len false (.l 22)),iL 24 (.mv (cI 0))]) (
 .blk 2 (
 .loop (
 .seq (.reg [
 iL 25 (.bin .lss (.l 24) (.l 23))]) (
 .seq (.cond (.l 25) (
 .skip) (
 .exit 2)) (
 .seq (.blk 3 (
 .seq (.reg [
 iT 26 (.ixs 12 (.l 22) (.l 24)),iT 27 (.ld true 12 (.t 26)),iL 6 (.alloc zl8_2),iN (.sto 12 (.l 6) (.t 27))]) (
 .seq (.reg [
 iT 28 (.fad 0 (.l 6)),iT 29 (.ld true 5 (.t 28)),iT 30 (.call 100 [.t 29]),iT 31 (.un .not (.t 30)),iT 32 (.mv (.t 31)),⟨.t 33,.fad 5 (.l 6),some ((.t 32),false)⟩,⟨.t 34,.ld true 7 (.t 33),some ((.t 32),false)⟩,⟨.t 35,.call 67 [.t 34],some ((.t 32),false)⟩,⟨.t 36,.un .not (.t 35),some ((.t 32),false)⟩,iL 37 (.pick (.t 32) (.c (.p (.b true))) (.t 36))]) (
 .cond (.l 37) (
 .seq (.reg [
 iL 2 (.mv (.c (.p (.b false))))]) (
 .ret)) (
 .skip))))) (
 .reg [
 iT 38 (.bin .add (.l 24) (cI 1)),iL 24 (.mv (.t 38))]))))))) (
 .seq (.reg [
 iL 2 (.mv (.c (.p (.b true))))]) (
 .ret)))))
theorem mc67_eq:(Tryz.f67.body.map (compile lv67 Tryz.prog 39))=some mc67:=by kernel_rfl
def mr67:List MR:=[.t 2]
theorem mr67_eq:cRess lv67 Tryz.prog Tryz.f67.results.toList=some mr67:=by kernel_rfl
theorem call67:CallT Tryz.prog 67 39 mc67 mr67:=acall_mc (by kernel_rfl) Tryz.func67 mc67_eq Tryz.ntmps67 (by kernel_rfl) mr67_eq
/- impl.ProgOk$1 -/
def lv68:List Nat:=[0,1,2]
def mc68:MC :=
.seq (.reg [
 iL 1 (.box 4 (.l 0)),iL 2 (.mv (.c (.p (.b false))))]) (
 .seq (.reg [
 iT 3 (.ld true 4 (.l 1)),iT 4 (.call 69 [.t 3]),iT 5 (.un .not (.t 4)),iL 2 (.mv (.t 5))]) (
 .ret))
theorem mc68_eq:(Tryz.f68.body.map (compile lv68 Tryz.prog 6))=some mc68:=by kernel_rfl
def mr68:List MR:=[.t 2]
theorem mr68_eq:cRess lv68 Tryz.prog Tryz.f68.results.toList=some mr68:=by kernel_rfl
theorem call68:CallT Tryz.prog 68 6 mc68 mr68:=acall_mc (by kernel_rfl) Tryz.func68 mc68_eq Tryz.ntmps68 (by kernel_rfl) mr68_eq
/- impl.dataOk -/
def lv69:List Nat:=[0,1,2,4,6,7,8,9,41]
def mc69:MC :=
.seq (.reg [
 iL 1 (.box 4 (.l 0)),iL 2 (.mv (.c (.p (.b false))))]) (
 .seq (.seq (.reg [
 iT 5 (.fad 2 (.l 1)),iL 6 (.ld false 1 (.t 5)),iL 7 (.len false (.l 6)),iL 8 (.mv (cI 0))]) (
 .blk 0 (
 .loop (
 .seq (.reg [
 iL 9 (.bin .lss (.l 8) (.l 7))]) (
 .seq (.cond (.l 9) (
 .skip) (
 .exit 0)) (
 .seq (.blk 1 (
 .seq (.reg [
 iT 10 (.ixs 7 (.l 6) (.l 8)),iT 11 (.ld true 7 (.t 10)),iL 4 (.alloc zl8_3),iN (.sto 7 (.l 4) (.t 11))]) (
 .seq (.reg [
 iT 12 (.fad 0 (.l 4)),iT 13 (.ld false 1 (.t 12)),iT 14 (.call 101 [.t 13]),iT 15 (.un .not (.t 14)),iT 16 (.mv (.t 15)),⟨.t 17,.fad 6 (.l 4),some ((.t 16),false)⟩,⟨.t 18,.ld false 1 (.t 17),some ((.t 16),false)⟩,⟨.t 19,.bin .lss (.t 18) (cI 0),some ((.t 16),false)⟩,iT 20 (.pick (.t 16) (.c (.p (.b true))) (.t 19)),iT 21 (.mv (.t 20)),⟨.t 22,.fad 1 (.l 4),some ((.t 21),false)⟩,⟨.t 23,.ld false 1 (.t 22),some ((.t 21),false)⟩,⟨.t 24,.mv (.t 23),some ((.t 21),false)⟩,⟨.t 25,.fad 2 (.l 4),some ((.t 24),true)⟩,⟨.t 26,.ld true 4 (.t 25),some ((.t 24),true)⟩,⟨.t 27,.call 102 [.t 26],some ((.t 24),true)⟩,⟨.t 28,.un .not (.t 27),some ((.t 24),true)⟩,⟨.t 29,.pick (.t 24) (.t 28) (.c (.p (.b false))),some ((.t 21),false)⟩,iT 30 (.pick (.t 21) (.c (.p (.b true))) (.t 29)),iT 31 (.mv (.t 30)),⟨.t 32,.fad 1 (.l 4),some ((.t 31),false)⟩,⟨.t 33,.ld false 1 (.t 32),some ((.t 31),false)⟩,⟨.t 34,.un .not (.t 33),some ((.t 31),false)⟩,⟨.t 35,.mv (.t 34),some ((.t 31),false)⟩,⟨.t 36,.fad 2 (.l 4),some ((.t 35),true)⟩,⟨.t 37,.ld true 4 (.t 36),some ((.t 35),true)⟩,⟨.t 38,.call 103 [.t 37],some ((.t 35),true)⟩,⟨.t 39,.un .not (.t 38),some ((.t 35),true)⟩,⟨.t 40,.pick (.t 35) (.t 39) (.c (.p (.b false))),some ((.t 31),false)⟩,iL 41 (.pick (.t 31) (.c (.p (.b true))) (.t 40))]) (
 .cond (.l 41) (
 .seq (.reg [
 iL 2 (.mv (.c (.p (.b false))))]) (
 .ret)) (
 .skip))))) (
 .reg [
 iT 42 (.bin .add (.l 8) (cI 1)),iL 8 (.mv (.t 42))]))))))) (
 .seq (.reg [
 iT 43 (.fad 0 (.l 1)),iT 44 (.ld false 1 (.t 43)),iT 45 (.call 104 [.t 44]),iT 46 (.mv (.t 45)),⟨.t 47,.fad 3 (.l 1),some ((.t 46),true)⟩,⟨.t 48,.ld false 1 (.t 47),some ((.t 46),true)⟩,⟨.t 49,.bin .geq (.t 48) (cI 0),some ((.t 46),true)⟩,iT 50 (.pick (.t 46) (.t 49) (.c (.p (.b false)))),iT 51 (.mv (.t 50)),⟨.t 52,.fad 2 (.l 1),some ((.t 51),true)⟩,⟨.t 53,.ld false 1 (.t 52),some ((.t 51),true)⟩,⟨.t 54,.len false (.t 53),some ((.t 51),true)⟩,⟨.t 55,.bin .gtr (.t 54) (cI 0),some ((.t 51),true)⟩,iT 56 (.pick (.t 51) (.t 55) (.c (.p (.b false)))),iT 57 (.mv (.t 56)),⟨.t 58,.fad 1 (.l 1),some ((.t 57),true)⟩,⟨.t 59,.ld false 1 (.t 58),some ((.t 57),true)⟩,⟨.t 60,.call 105 [.t 59,.c (.clo 106 [])],some ((.t 57),true)⟩,⟨.t 61,.un .not (.t 60),some ((.t 57),true)⟩,iT 62 (.pick (.t 57) (.t 61) (.c (.p (.b false)))),iL 2 (.mv (.t 62))]) (
 .ret)))
theorem mc69_eq:(Tryz.f69.body.map (compile lv69 Tryz.prog 63))=some mc69:=by kernel_rfl
def mr69:List MR:=[.t 2]
theorem mr69_eq:cRess lv69 Tryz.prog Tryz.f69.results.toList=some mr69:=by kernel_rfl
theorem call69:CallT Tryz.prog 69 63 mc69 mr69:=acall_mc (by kernel_rfl) Tryz.func69 mc69_eq Tryz.ntmps69 (by kernel_rfl) mr69_eq
/- slices.IndexFunc[[]impl.Data,impl.Data] -/
def lv70:List Nat:=[0,1,4,5,7,8,9,16]
def mc70:MC :=
.seq (.reg [
 iL 4 (.mv (cI 0))]) (
 .seq (.seq (.reg [
 iT 6 (.mv (.l 0)),iL 7 (.len false (.t 6)),iL 8 (.mv (cI 0))]) (
 .blk 0 (
 .loop (
 .seq (.reg [
 iL 9 (.bin .lss (.l 8) (.l 7))]) (
 .seq (.cond (.l 9) (
 .skip) (
 .exit 0)) (
 .seq (.blk 1 (
 .seq (.reg [
 iT 10 (.mv (.l 8)),iL 5 (.mv (.t 10))]) (
 .seq (.reg [
 iT 11 (.mv (.l 1)),iT 12 (.mv (.l 0)),iT 13 (.mv (.l 5)),iT 14 (.ixs 4 (.t 12) (.t 13)),iT 15 (.ld true 4 (.t 14)),iL 16 (.calv (.t 11) [.t 15])]) (
 .cond (.l 16) (
 .seq (.reg [
 iT 17 (.mv (.l 5)),iL 4 (.mv (.t 17))]) (
 .ret)) (
 .skip))))) (
 .reg [
 iT 18 (.bin .add (.l 8) (cI 1)),iL 8 (.mv (.t 18))]))))))) (
 .seq (.reg [
 iL 4 (.mv (cI (-1)))]) (
 .ret)))
theorem mc70_eq:(Tryz.f70.body.map (compile lv70 Tryz.prog 19))=some mc70:=by kernel_rfl
def mr70:List MR:=[.t 4]
theorem mr70_eq:cRess lv70 Tryz.prog Tryz.f70.results.toList=some mr70:=by kernel_rfl
theorem call70:CallT Tryz.prog 70 19 mc70 mr70:=acall_mc (by kernel_rfl) Tryz.func70 mc70_eq Tryz.ntmps70 (by kernel_rfl) mr70_eq
/- slices.Index[[]string,string] -/
def lv71:List Nat:=[0,1,4,5,7,8,9,16]
def mc71:MC :=
.seq (.reg [
 iL 4 (.mv (cI 0))]) (
 .seq (.seq (.reg [
 iT 6 (.mv (.l 0)),iL 7 (.len false (.t 6)),iL 8 (.mv (cI 0))]) (
 .blk 0 (
 .loop (
 .seq (.reg [
 iL 9 (.bin .lss (.l 8) (.l 7))]) (
 .seq (.cond (.l 9) (
 .skip) (
 .exit 0)) (
 .seq (.blk 1 (
 .seq (.reg [
 iT 10 (.mv (.l 8)),iL 5 (.mv (.t 10))]) (
 .seq (.reg [
 iT 11 (.mv (.l 1)),iT 12 (.mv (.l 0)),iT 13 (.mv (.l 5)),iT 14 (.ixs 1 (.t 12) (.t 13)),iT 15 (.ld false 1 (.t 14)),iL 16 (.bin .eql (.t 11) (.t 15))]) (
 .cond (.l 16) (
 .seq (.reg [
 iT 17 (.mv (.l 5)),iL 4 (.mv (.t 17))]) (
 .ret)) (
 .skip))))) (
 .reg [
 iT 18 (.bin .add (.l 8) (cI 1)),iL 8 (.mv (.t 18))]))))))) (
 .seq (.reg [
 iL 4 (.mv (cI (-1)))]) (
 .ret)))
theorem mc71_eq:(Tryz.f71.body.map (compile lv71 Tryz.prog 19))=some mc71:=by kernel_rfl
def mr71:List MR:=[.t 4]
theorem mr71_eq:cRess lv71 Tryz.prog Tryz.f71.results.toList=some mr71:=by kernel_rfl
theorem call71:CallT Tryz.prog 71 19 mc71 mr71:=acall_mc (by kernel_rfl) Tryz.func71 mc71_eq Tryz.ntmps71 (by kernel_rfl) mr71_eq
/- (*impl.tableMaker).ty -/
def lv72:List Nat:=[0,1,2,4,5,6,7,8,10,15,27,38,43,53,59,62,65,69,70,71,72]
def mc72t:MC :=
.seq (.seq (.reg [
 iT 68 (.fad 3 (.l 5)),iL 69 (.ld false 1 (.t 68)),iL 70 (.len false (.l 69)),iL 71 (.mv (cI 0))]) (
 .blk 1 (
 .loop (
 .seq (.reg [
 iL 72 (.bin .lss (.l 71) (.l 70))]) (
 .seq (.cond (.l 72) (
 .skip) (
 .exit 1)) (
 .seq (.blk 2 (
 .seq (.reg [
 iT 73 (.ixs 4 (.l 69) (.l 71)),iT 74 (.ld true 4 (.t 73)),iL 10 (.alloc [.p (.i .i64 0),.p (.s []),.p (.i .i64 0),.p (.nl)]),iN (.sto 4 (.l 10) (.t 74))]) (
 .drw [
 iT 75 (.fad 3 (.l 7)),iT 76 (.ld false 1 (.t 75)),iT 77 (.mv (.l 0)),iT 78 (.ld true 4 (.l 4)),iT 79 (.ld true 4 (.l 10)),iT 80 (.call 72 [.t 77,.t 78,.t 79]),iT 81 (.bsl 4 [.p (.i .i64 0),.p (.i .i64 0),.p (.s []),.p (.nl)] 1 [(0,(.t 80))])] [
 iT 82 (.app 4 56 (.t 76) (.t 81)),iT 83 (.fad 3 (.l 7)),iN (.sto 1 (.t 83) (.t 82))]))) (
 .reg [
 iT 84 (.bin .add (.l 71) (cI 1)),iL 71 (.mv (.t 84))]))))))) (
 .seq (.reg [
 iT 85 (.ld true 4 (.l 7)),iN (.sto 4 (.l 6) (.t 85))]) (
 .ret))
def mc72:MC :=
.seq (.reg [
 iL 4 (.box 4 (.l 1)),iL 5 (.box 4 (.l 2)),iL 6 (.alloc [.p (.i .i64 0),.p (.i .i64 0),.p (.s []),.p (.nl)])]) (
 .seq (.reg [
 iT 11 (.fad 1 (.l 5)),iT 12 (.ld false 1 (.t 11)),iT 13 (.build [.p (.i .i64 0),.p (.i .i64 0),.p (.s []),.p (.nl)] [(0,1,(cI 7)),(2,1,(.t 12))]),iL 7 (.alloc [.p (.i .i64 0),.p (.i .i64 0),.p (.s []),.p (.nl)]),iN (.sto 4 (.l 7) (.t 13))]) (
 .seq (.seq (.reg [
 iT 14 (.fad 0 (.l 5)),iL 15 (.ld false 1 (.t 14))]) (
 .blk 0 (
 .seq (.reg [
 iT 44 (.bin .eql (.l 15) (cI 2)),iL 43 (.mv (.t 44))]) (
 .cond (.l 43) (
 .seq (.reg [
 iT 45 (.fad 1 (.l 4)),iT 46 (.ld false 1 (.t 45)),iT 47 (.fad 1 (.l 5)),iT 48 (.ld false 1 (.t 47)),iT 49 (.call 71 [.t 46,.t 48]),iT 50 (.build [.p (.i .i64 0),.p (.i .i64 0),.p (.s []),.p (.nl)] [(0,1,(cI 10)),(1,1,(.t 49))]),iN (.sto 4 (.l 7) (.t 50))]) (
 .seq (.seq (.reg [
 iT 51 (.fad 1 (.l 7)),iT 52 (.ld false 1 (.t 51)),iL 53 (.bin .lss (.t 52) (cI 0))]) (
 .cond (.l 53) (
 .reg [
 iT 54 (.mv (.l 0)),iT 55 (.fad 2 (.l 5)),iT 56 (.ld false 1 (.t 55)),iT 57 (.call 35 [.t 54,.c (.p (.i .i64 25)),.t 56])]) (
 .skip))) (
 .seq (.reg [
 iT 58 (.ld true 4 (.l 7)),iN (.sto 4 (.l 6) (.t 58))]) (
 .ret)))) (
 .seq (.reg [
 iT 60 (.bin .eql (.l 15) (cI 3)),iL 59 (.mv (.t 60))]) (
 .cond (.l 59) (
 .reg [
 iT 61 (.build [.p (.i .i64 0),.p (.i .i64 0),.p (.s []),.p (.nl)] [(0,1,(cI 5))]),iN (.sto 4 (.l 7) (.t 61))]) (
 .seq (.reg [
 iT 63 (.bin .eql (.l 15) (cI 4)),iL 62 (.mv (.t 63))]) (
 .cond (.l 62) (
 .reg [
 iT 64 (.build [.p (.i .i64 0),.p (.i .i64 0),.p (.s []),.p (.nl)] [(0,1,(cI 6))]),iN (.sto 4 (.l 7) (.t 64))]) (
 .seq (.reg [
 iT 66 (.bin .eql (.l 15) (cI 5)),iL 65 (.mv (.t 66))]) (
 .cond (.l 65) (
 .reg [
 iT 67 (.build [.p (.i .i64 0),.p (.i .i64 0),.p (.s []),.p (.nl)] [(0,1,(cI 8))]),iN (.sto 4 (.l 7) (.t 67))]) (
 .seq (.drw [
 iT 16 (.call 34 []),iT 17 (.fad 1 (.l 5)),iT 18 (.ld false 1 (.t 17))] [
 iT 19 (.call 71 [.t 16,.t 18]),iL 8 (.mv (.t 19))]) (
 .seq (.seq (.reg [
 iT 20 (.mv (.l 8)),iT 21 (.bin .geq (.t 20) (cI 0)),iT 22 (.mv (.t 21)),⟨.t 23,.fad 3 (.l 5),some ((.t 22),true)⟩,⟨.t 24,.ld false 1 (.t 23),some ((.t 22),true)⟩,⟨.t 25,.len false (.t 24),some ((.t 22),true)⟩,⟨.t 26,.bin .eql (.t 25) (cI 0),some ((.t 22),true)⟩,iL 27 (.pick (.t 22) (.t 26) (.c (.p (.b false))))]) (
 .cond (.l 27) (
 .seq (.reg [
 iT 28 (.mv (.l 8)),iT 29 (.bin .add (cI 1) (.t 28)),iT 30 (.build [.p (.i .i64 0),.p (.i .i64 0),.p (.s []),.p (.nl)] [(0,1,(.t 29))]),iN (.sto 4 (.l 6) (.t 30))]) (
 .ret)) (
 .skip))) (
 .seq (.reg [
 iT 31 (.mv (.l 0)),iT 32 (.nilc (.t 31)),iT 33 (.fad 0 (.t 32)),iT 34 (.fad 0 (.t 33)),iT 35 (.ld false 1 (.t 34)),iT 36 (.mkf 109 [.l 5]),iT 37 (.call 31 [.t 35,.t 36]),iL 38 (.un .not (.t 37))]) (
 .cond (.l 38) (
 .reg [
 iT 39 (.mv (.l 0)),iT 40 (.fad 2 (.l 5)),iT 41 (.ld false 1 (.t 40)),iT 42 (.call 35 [.t 39,.c (.p (.i .i64 24)),.t 41])]) (
 .skip))))))))))))))) mc72t))
theorem mc72_eq:(Tryz.f72.body.map (compile lv72 Tryz.prog 86))=some mc72:=by kernel_rfl
def mr72:List MR:=[.cell true 4 6]
theorem mr72_eq:cRess lv72 Tryz.prog Tryz.f72.results.toList=some mr72:=by kernel_rfl
theorem call72:CallT Tryz.prog 72 86 mc72 mr72:=acall_mc (by kernel_rfl) Tryz.func72 mc72_eq Tryz.ntmps72 (by kernel_rfl) mr72_eq
/- impl.FindCtor -/
/- impl.headOk -/
def lv99:List Nat:=[0,1,2,3,4,5,6,21,22,27,32,37,39,44,53,59,68,74,83,95,101,107,116]
def mc99:MC :=
.seq (.reg [
 iL 1 (.box 7 (.l 0)),iL 2 (.mv (.c (.p (.b false))))]) (
 .seq (.drw [
 iT 7 (.fad 5 (.l 1)),iT 8 (.ld false 1 (.t 7)),iT 9 (.lenq false (.t 8)),iT 10 (.bin .eql (.t 9) (cI 0)),iT 11 (.fad 1 (.l 1)),iT 12 (.ld false 1 (.t 11)),iT 13 (.bin .eql (.t 12) (.c (.p (.s [])))),iT 14 (.fad 2 (.l 1)),iT 15 (.ld false 1 (.t 14)),iT 16 (.bin .eql (.t 15) (cI 0)),iT 17 (.fad 3 (.l 1)),iT 18 (.ld false 1 (.t 17)),iT 19 (.bin .eql (.t 18) (.c (.p (.s [])))),iL 3 (.mv (.t 10)),iL 4 (.mv (.t 13)),iL 5 (.mv (.t 16))] [
 iL 6 (.mv (.t 19))]) (
 .seq (.seq (.reg [
 iT 20 (.fad 0 (.l 1)),iL 21 (.ld false 1 (.t 20))]) (
 .blk 0 (
 .seq (.reg [
 iT 23 (.bin .eql (.l 21) (cI 1)),iL 22 (.mv (.t 23))]) (
 .cond (.l 22) (
 .reg [
 iT 24 (.fad 2 (.l 1)),iT 25 (.ld false 1 (.t 24)),iT 26 (.bin .geq (.t 25) (cI 0)),iL 5 (.mv (.t 26))]) (
 .seq (.reg [
 iT 28 (.bin .eql (.l 21) (cI 2)),iL 27 (.mv (.t 28))]) (
 .cond (.l 27) (
 .reg [
 iT 29 (.fad 3 (.l 1)),iT 30 (.ld false 1 (.t 29)),iT 31 (.call 126 [.t 30]),iL 6 (.mv (.t 31))]) (
 .seq (.reg [
 iT 33 (.bin .eql (.l 21) (cI 3)),iL 32 (.mv (.t 33))]) (
 .cond (.l 32) (
 .reg [
 iT 34 (.fad 2 (.l 1)),iT 35 (.ld false 1 (.t 34)),iT 36 (.call 127 [.t 35,.c (.p (.i .i64 0)),.c (.p (.i .i64 1))]),iL 5 (.mv (.t 36))]) (
 .seq (.reg [
 iT 38 (.bin .eql (.l 21) (cI 4)),iL 37 (.mv (.t 38))]) (
 .cond (.l 37) (
 .skip) (
 .seq (.reg [
 iT 40 (.bin .eql (.l 21) (cI 5)),iL 39 (.mv (.t 40))]) (
 .cond (.l 39) (
 .reg [
 iT 41 (.fad 1 (.l 1)),iT 42 (.ld false 1 (.t 41)),iT 43 (.call 104 [.t 42]),iL 4 (.mv (.t 43))]) (
 .seq (.reg [
 iT 45 (.bin .eql (.l 21) (cI 6)),iL 44 (.mv (.t 45))]) (
 .cond (.l 44) (
 .drw [
 iT 46 (.fad 5 (.l 1)),iT 47 (.ld false 1 (.t 46)),iT 48 (.lenq false (.t 47)),iT 49 (.bin .leq (.t 48) (cI 1)),iT 50 (.fad 1 (.l 1)),iT 51 (.ld false 1 (.t 50)),iT 52 (.call 101 [.t 51])] [
 iL 3 (.mv (.t 49)),iL 4 (.mv (.t 52))]) (
 .seq (.reg [
 iT 54 (.bin .eql (.l 21) (cI 7)),iL 53 (.mv (.t 54))]) (
 .cond (.l 53) (
 .reg [
 iT 55 (.fad 5 (.l 1)),iT 56 (.ld false 1 (.t 55)),iT 57 (.len false (.t 56)),iT 58 (.bin .geq (.t 57) (cI 2)),iL 3 (.mv (.t 58))]) (
 .seq (.reg [
 iT 60 (.bin .eql (.l 21) (cI 8)),iL 59 (.mv (.t 60))]) (
 .cond (.l 59) (
 .drw [
 iT 61 (.fad 5 (.l 1)),iT 62 (.ld false 1 (.t 61)),iT 63 (.lenq false (.t 62)),iT 64 (.bin .eql (.t 63) (cI 1)),iT 65 (.fad 1 (.l 1)),iT 66 (.ld false 1 (.t 65)),iT 67 (.call 104 [.t 66])] [
 iL 3 (.mv (.t 64)),iL 4 (.mv (.t 67))]) (
 .seq (.reg [
 iT 69 (.bin .eql (.l 21) (cI 9)),iL 68 (.mv (.t 69))]) (
 .cond (.l 68) (
 .reg [
 iT 70 (.fad 5 (.l 1)),iT 71 (.ld false 1 (.t 70)),iT 72 (.len false (.t 71)),iT 73 (.bin .eql (.t 72) (cI 2)),iL 3 (.mv (.t 73))]) (
 .seq (.reg [
 iT 75 (.bin .eql (.l 21) (cI 10)),iL 74 (.mv (.t 75))]) (
 .cond (.l 74) (
 .drw [
 iT 76 (.fad 5 (.l 1)),iT 77 (.ld false 1 (.t 76)),iT 78 (.lenq false (.t 77)),iT 79 (.bin .eql (.t 78) (cI 2)),iT 80 (.fad 1 (.l 1)),iT 81 (.ld false 1 (.t 80)),iT 82 (.call 104 [.t 81])] [
 iL 3 (.mv (.t 79)),iL 4 (.mv (.t 82))]) (
 .seq (.reg [
 iT 84 (.bin .eql (.l 21) (cI 11)),iL 83 (.mv (.t 84))]) (
 .cond (.l 83) (
 .drw [
 iT 85 (.fad 5 (.l 1)),iT 86 (.ld false 1 (.t 85)),iT 87 (.lenq false (.t 86)),iT 88 (.bin .eql (.t 87) (cI 2)),iT 89 (.fad 1 (.l 1)),iT 90 (.ld false 1 (.t 89)),iT 91 (.call 104 [.t 90]),iT 92 (.fad 3 (.l 1)),iT 93 (.ld false 1 (.t 92)),iT 94 (.call 104 [.t 93])] [
 iL 3 (.mv (.t 88)),iL 4 (.mv (.t 91)),iL 6 (.mv (.t 94))]) (
 .seq (.reg [
 iT 96 (.bin .eql (.l 21) (cI 12)),iL 95 (.mv (.t 96))]) (
 .cond (.l 95) (
 .reg [
 iT 97 (.fad 5 (.l 1)),iT 98 (.ld false 1 (.t 97)),iT 99 (.len false (.t 98)),iT 100 (.bin .eql (.t 99) (cI 3)),iL 3 (.mv (.t 100))]) (
 .seq (.reg [
 iT 102 (.bin .eql (.l 21) (cI 13)),iL 101 (.mv (.t 102))]) (
 .cond (.l 101) (
 .reg [
 iT 103 (.fad 5 (.l 1)),iT 104 (.ld false 1 (.t 103)),iT 105 (.len false (.t 104)),iT 106 (.bin .eql (.t 105) (cI 1)),iL 3 (.mv (.t 106))]) (
 .seq (.reg [
 iT 108 (.bin .eql (.l 21) (cI 14)),iL 107 (.mv (.t 108))]) (
 .cond (.l 107) (
 .drw [
 iT 109 (.fad 5 (.l 1)),iT 110 (.ld false 1 (.t 109)),iT 111 (.lenq false (.t 110)),iT 112 (.bin .eql (.t 111) (cI 2)),iT 113 (.fad 1 (.l 1)),iT 114 (.ld false 1 (.t 113)),iT 115 (.call 128 [.t 114])] [
 iL 3 (.mv (.t 112)),iL 4 (.mv (.t 115))]) (
 .seq (.reg [
 iT 117 (.bin .eql (.l 21) (cI 15)),iL 116 (.mv (.t 117))]) (
 .cond (.l 116) (
 .drw [
 iT 118 (.fad 5 (.l 1)),iT 119 (.ld false 1 (.t 118)),iT 120 (.lenq false (.t 119)),iT 121 (.fad 1 (.l 1)),iT 122 (.ld false 1 (.t 121)),iT 123 (.call 129 [.t 122])] [
 iT 124 (.bin .eql (.t 120) (.t 123)),iL 3 (.mv (.t 124)),iL 4 (.mv (.c (.p (.b true))))]) (
 .seq (.reg [
 iL 2 (.mv (.c (.p (.b false))))]) (
 .ret)))))))))))))))))))))))))))))))))) (
 .seq (.reg [
 iT 125 (.mv (.l 3)),iT 126 (.mv (.t 125)),⟨.t 127,.mv (.l 4),some ((.t 126),true)⟩,iT 128 (.pick (.t 126) (.t 127) (.c (.p (.b false)))),iT 129 (.mv (.t 128)),⟨.t 130,.mv (.l 5),some ((.t 129),true)⟩,iT 131 (.pick (.t 129) (.t 130) (.c (.p (.b false)))),iT 132 (.mv (.t 131)),⟨.t 133,.mv (.l 6),some ((.t 132),true)⟩,iT 134 (.pick (.t 132) (.t 133) (.c (.p (.b false)))),iT 135 (.mv (.t 134)),⟨.t 136,.fad 4 (.l 1),some ((.t 135),true)⟩,⟨.t 137,.ld false 1 (.t 136),some ((.t 135),true)⟩,⟨.t 138,.bin .geq (.t 137) (cI 0),some ((.t 135),true)⟩,iT 139 (.pick (.t 135) (.t 138) (.c (.p (.b false)))),iT 140 (.mv (.t 139)),⟨.t 141,.fad 0 (.l 1),some ((.t 140),true)⟩,⟨.t 142,.ld false 1 (.t 141),some ((.t 140),true)⟩,⟨.t 143,.bin .eql (.t 142) (cI 13),some ((.t 140),true)⟩,⟨.t 144,.fad 6 (.l 1),some ((.t 140),true)⟩,⟨.t 145,.ld false 1 (.t 144),some ((.t 140),true)⟩,⟨.t 146,.len false (.t 145),some ((.t 140),true)⟩,⟨.t 147,.bin .gtr (.t 146) (cI 0),some ((.t 140),true)⟩,⟨.t 148,.beq false (.t 143) (.t 147),some ((.t 140),true)⟩,iT 149 (.pick (.t 140) (.t 148) (.c (.p (.b false)))),iL 2 (.mv (.t 149))]) (
 .ret))))
set_option maxHeartbeats 4000000 in
theorem mc99_eq:(Tryz.f99.body.map (compile lv99 Tryz.prog 150))=some mc99:=by kernel_rfl
def mr99:List MR:=[.t 2]
theorem mr99_eq:cRess lv99 Tryz.prog Tryz.f99.results.toList=some mr99:=by kernel_rfl
theorem call99:CallT Tryz.prog 99 150 mc99 mr99:=acall_mc (by kernel_rfl) Tryz.func99 mc99_eq Tryz.ntmps99 (by kernel_rfl) mr99_eq
/- impl.patOk -/
def lv100:List Nat:=[0,1,2,3,4,5,17,18,21,26,31,36,42]
def mc100:MC :=
.seq (.reg [
 iL 1 (.box 5 (.l 0)),iL 2 (.mv (.c (.p (.b false))))]) (
 .seq (.drw [
 iT 6 (.fad 4 (.l 1)),iT 7 (.ld false 1 (.t 6)),iT 8 (.lenq false (.t 7)),iT 9 (.bin .eql (.t 8) (cI 0)),iT 10 (.fad 1 (.l 1)),iT 11 (.ld false 1 (.t 10)),iT 12 (.bin .eql (.t 11) (.c (.p (.s [])))),iT 13 (.fad 2 (.l 1)),iT 14 (.ld false 1 (.t 13)),iT 15 (.bin .eql (.t 14) (cI 0)),iL 3 (.mv (.t 9)),iL 4 (.mv (.t 12))] [
 iL 5 (.mv (.t 15))]) (
 .seq (.seq (.reg [
 iT 16 (.fad 0 (.l 1)),iL 17 (.ld false 1 (.t 16))]) (
 .blk 0 (
 .seq (.seq (.reg [
 iT 19 (.bin .eql (.l 17) (cI 1)),iL 18 (.mv (.t 19))]) (
 .cond (.l 18) (
 .skip) (
 .reg [
 iT 20 (.bin .eql (.l 17) (cI 5)),iL 18 (.mv (.t 20))]))) (
 .cond (.l 18) (
 .skip) (
 .seq (.reg [
 iT 22 (.bin .eql (.l 17) (cI 2)),iL 21 (.mv (.t 22))]) (
 .cond (.l 21) (
 .reg [
 iT 23 (.fad 1 (.l 1)),iT 24 (.ld false 1 (.t 23)),iT 25 (.call 104 [.t 24]),iL 4 (.mv (.t 25))]) (
 .seq (.reg [
 iT 27 (.bin .eql (.l 17) (cI 3)),iL 26 (.mv (.t 27))]) (
 .cond (.l 26) (
 .reg [
 iT 28 (.fad 2 (.l 1)),iT 29 (.ld false 1 (.t 28)),iT 30 (.bin .geq (.t 29) (cI 0)),iL 5 (.mv (.t 30))]) (
 .seq (.reg [
 iT 32 (.bin .eql (.l 17) (cI 4)),iL 31 (.mv (.t 32))]) (
 .cond (.l 31) (
 .reg [
 iT 33 (.fad 2 (.l 1)),iT 34 (.ld false 1 (.t 33)),iT 35 (.call 127 [.t 34,.c (.p (.i .i64 0)),.c (.p (.i .i64 1))]),iL 5 (.mv (.t 35))]) (
 .seq (.reg [
 iT 37 (.bin .eql (.l 17) (cI 6)),iL 36 (.mv (.t 37))]) (
 .cond (.l 36) (
 .reg [
 iT 38 (.fad 4 (.l 1)),iT 39 (.ld false 1 (.t 38)),iT 40 (.len false (.t 39)),iT 41 (.bin .geq (.t 40) (cI 2)),iL 3 (.mv (.t 41))]) (
 .seq (.reg [
 iT 43 (.bin .eql (.l 17) (cI 7)),iL 42 (.mv (.t 43))]) (
 .cond (.l 42) (
 .drw [
 iT 44 (.fad 4 (.l 1)),iT 45 (.ld false 1 (.t 44)),iT 46 (.lenq false (.t 45)),iT 47 (.bin .leq (.t 46) (cI 1)),iT 48 (.fad 1 (.l 1)),iT 49 (.ld false 1 (.t 48)),iT 50 (.call 101 [.t 49])] [
 iL 3 (.mv (.t 47)),iL 4 (.mv (.t 50))]) (
 .seq (.reg [
 iL 2 (.mv (.c (.p (.b false))))]) (
 .ret)))))))))))))))) (
 .seq (.reg [
 iT 51 (.mv (.l 3)),iT 52 (.mv (.t 51)),⟨.t 53,.mv (.l 4),some ((.t 52),true)⟩,iT 54 (.pick (.t 52) (.t 53) (.c (.p (.b false)))),iT 55 (.mv (.t 54)),⟨.t 56,.mv (.l 5),some ((.t 55),true)⟩,iT 57 (.pick (.t 55) (.t 56) (.c (.p (.b false)))),iT 58 (.mv (.t 57)),⟨.t 59,.fad 3 (.l 1),some ((.t 58),true)⟩,⟨.t 60,.ld false 1 (.t 59),some ((.t 58),true)⟩,⟨.t 61,.bin .geq (.t 60) (cI 0),some ((.t 58),true)⟩,iT 62 (.pick (.t 58) (.t 61) (.c (.p (.b false)))),iT 63 (.mv (.t 62)),⟨.t 64,.fad 4 (.l 1),some ((.t 63),true)⟩,⟨.t 65,.ld false 1 (.t 64),some ((.t 63),true)⟩,⟨.t 66,.call 130 [.t 65,.c (.clo 131 [])],some ((.t 63),true)⟩,⟨.t 67,.un .not (.t 66),some ((.t 63),true)⟩,iT 68 (.pick (.t 63) (.t 67) (.c (.p (.b false)))),iL 2 (.mv (.t 68))]) (
 .ret))))
theorem mc100_eq:(Tryz.f100.body.map (compile lv100 Tryz.prog 69))=some mc100:=by kernel_rfl
def mr100:List MR:=[.t 2]
theorem mr100_eq:cRess lv100 Tryz.prog Tryz.f100.results.toList=some mr100:=by kernel_rfl
theorem call100:CallT Tryz.prog 100 69 mc100 mr100:=acall_mc (by kernel_rfl) Tryz.func100 mc100_eq Tryz.ntmps100 (by kernel_rfl) mr100_eq
/- impl.upOk -/
def lv101:List Nat:=[0,2]
def mc101:MC :=
.seq (.reg [
 iL 2 (.mv (.c (.p (.b false))))]) (
 .seq (.reg [
 iT 3 (.mv (.l 0)),iT 4 (.call 107 [.t 3,.c (.clo 132 [])]),iL 2 (.mv (.t 4))]) (
 .ret))
theorem mc101_eq:(Tryz.f101.body.map (compile lv101 Tryz.prog 5))=some mc101:=by kernel_rfl
def mr101:List MR:=[.t 2]
theorem mr101_eq:cRess lv101 Tryz.prog Tryz.f101.results.toList=some mr101:=by kernel_rfl
theorem call101:CallT Tryz.prog 101 5 mc101 mr101:=acall_mc (by kernel_rfl) Tryz.func101 mc101_eq Tryz.ntmps101 (by kernel_rfl) mr101_eq
/- impl.typeOk -/
def lv102:List Nat:=[0,1,2,3,4,9,10,15,24,30,36]
def mc102:MC :=
.seq (.reg [
 iL 1 (.box 4 (.l 0)),iL 2 (.mv (.c (.p (.b false))))]) (
 .seq (.drw [
 iT 5 (.fad 1 (.l 1)),iT 6 (.ld false 1 (.t 5)),iT 7 (.bin .eql (.t 6) (.c (.p (.s [])))),iL 3 (.mv (.c (.p (.b false))))] [
 iL 4 (.mv (.t 7))]) (
 .seq (.seq (.reg [
 iT 8 (.fad 0 (.l 1)),iL 9 (.ld false 1 (.t 8))]) (
 .blk 0 (
 .seq (.reg [
 iT 11 (.bin .eql (.l 9) (cI 1)),iL 10 (.mv (.t 11))]) (
 .cond (.l 10) (
 .reg [
 iT 12 (.fad 1 (.l 1)),iT 13 (.ld false 1 (.t 12)),iT 14 (.call 104 [.t 13]),iL 3 (.mv (.c (.p (.b true)))),iL 4 (.mv (.t 14))]) (
 .seq (.reg [
 iT 16 (.bin .eql (.l 9) (cI 2)),iL 15 (.mv (.t 16))]) (
 .cond (.l 15) (
 .drw [
 iT 17 (.fad 3 (.l 1)),iT 18 (.ld false 1 (.t 17)),iT 19 (.lenq false (.t 18)),iT 20 (.bin .eql (.t 19) (cI 0)),iT 21 (.fad 1 (.l 1)),iT 22 (.ld false 1 (.t 21)),iT 23 (.call 107 [.t 22,.c (.clo 108 [])])] [
 iL 3 (.mv (.t 20)),iL 4 (.mv (.t 23))]) (
 .seq (.reg [
 iT 25 (.bin .eql (.l 9) (cI 3)),iL 24 (.mv (.t 25))]) (
 .cond (.l 24) (
 .reg [
 iT 26 (.fad 3 (.l 1)),iT 27 (.ld false 1 (.t 26)),iT 28 (.len false (.t 27)),iT 29 (.bin .eql (.t 28) (cI 2)),iL 3 (.mv (.t 29))]) (
 .seq (.reg [
 iT 31 (.bin .eql (.l 9) (cI 4)),iL 30 (.mv (.t 31))]) (
 .cond (.l 30) (
 .reg [
 iT 32 (.fad 3 (.l 1)),iT 33 (.ld false 1 (.t 32)),iT 34 (.len false (.t 33)),iT 35 (.bin .geq (.t 34) (cI 2)),iL 3 (.mv (.t 35))]) (
 .seq (.reg [
 iT 37 (.bin .eql (.l 9) (cI 5)),iL 36 (.mv (.t 37))]) (
 .cond (.l 36) (
 .reg [
 iT 38 (.fad 3 (.l 1)),iT 39 (.ld false 1 (.t 38)),iT 40 (.len false (.t 39)),iT 41 (.bin .eql (.t 40) (cI 1)),iL 3 (.mv (.t 41))]) (
 .skip))))))))))))) (
 .seq (.reg [
 iT 42 (.mv (.l 3)),iT 43 (.mv (.t 42)),⟨.t 44,.mv (.l 4),some ((.t 43),true)⟩,iT 45 (.pick (.t 43) (.t 44) (.c (.p (.b false)))),iT 46 (.mv (.t 45)),⟨.t 47,.fad 2 (.l 1),some ((.t 46),true)⟩,⟨.t 48,.ld false 1 (.t 47),some ((.t 46),true)⟩,⟨.t 49,.bin .geq (.t 48) (cI 0),some ((.t 46),true)⟩,iT 50 (.pick (.t 46) (.t 49) (.c (.p (.b false)))),iT 51 (.mv (.t 50)),⟨.t 52,.fad 3 (.l 1),some ((.t 51),true)⟩,⟨.t 53,.ld false 1 (.t 52),some ((.t 51),true)⟩,⟨.t 54,.call 133 [.t 53,.c (.clo 134 [])],some ((.t 51),true)⟩,⟨.t 55,.un .not (.t 54),some ((.t 51),true)⟩,iT 56 (.pick (.t 51) (.t 55) (.c (.p (.b false)))),iL 2 (.mv (.t 56))]) (
 .ret))))
theorem mc102_eq:(Tryz.f102.body.map (compile lv102 Tryz.prog 57))=some mc102:=by kernel_rfl
def mr102:List MR:=[.t 2]
theorem mr102_eq:cRess lv102 Tryz.prog Tryz.f102.results.toList=some mr102:=by kernel_rfl
theorem call102:CallT Tryz.prog 102 57 mc102 mr102:=acall_mc (by kernel_rfl) Tryz.func102 mc102_eq Tryz.ntmps102 (by kernel_rfl) mr102_eq
/- impl.emptyType -/
def lv103:List Nat:=[0,1,2]
def mc103:MC :=
.seq (.reg [
 iL 1 (.box 4 (.l 0)),iL 2 (.mv (.c (.p (.b false))))]) (
 .seq (.reg [
 iT 3 (.fad 0 (.l 1)),iT 4 (.ld false 1 (.t 3)),iT 5 (.bin .eql (.t 4) (cI 0)),iT 6 (.mv (.t 5)),⟨.t 7,.fad 1 (.l 1),some ((.t 6),true)⟩,⟨.t 8,.ld false 1 (.t 7),some ((.t 6),true)⟩,⟨.t 9,.bin .eql (.t 8) (.c (.p (.s []))),some ((.t 6),true)⟩,iT 10 (.pick (.t 6) (.t 9) (.c (.p (.b false)))),iT 11 (.mv (.t 10)),⟨.t 12,.fad 2 (.l 1),some ((.t 11),true)⟩,⟨.t 13,.ld false 1 (.t 12),some ((.t 11),true)⟩,⟨.t 14,.bin .eql (.t 13) (cI 0),some ((.t 11),true)⟩,iT 15 (.pick (.t 11) (.t 14) (.c (.p (.b false)))),iT 16 (.mv (.t 15)),⟨.t 17,.fad 3 (.l 1),some ((.t 16),true)⟩,⟨.t 18,.ld false 1 (.t 17),some ((.t 16),true)⟩,⟨.t 19,.len false (.t 18),some ((.t 16),true)⟩,⟨.t 20,.bin .eql (.t 19) (cI 0),some ((.t 16),true)⟩,iT 21 (.pick (.t 16) (.t 20) (.c (.p (.b false)))),iL 2 (.mv (.t 21))]) (
 .ret))
theorem mc103_eq:(Tryz.f103.body.map (compile lv103 Tryz.prog 22))=some mc103:=by kernel_rfl
def mr103:List MR:=[.t 2]
theorem mr103_eq:cRess lv103 Tryz.prog Tryz.f103.results.toList=some mr103:=by kernel_rfl
theorem call103:CallT Tryz.prog 103 22 mc103 mr103:=acall_mc (by kernel_rfl) Tryz.func103 mc103_eq Tryz.ntmps103 (by kernel_rfl) mr103_eq
/- impl.lowOk -/
def lv104:List Nat:=[0,2]
def mc104:MC :=
.seq (.reg [
 iL 2 (.mv (.c (.p (.b false))))]) (
 .seq (.reg [
 iT 3 (.mv (.l 0)),iT 4 (.call 107 [.t 3,.c (.clo 108 [])]),iT 5 (.mv (.t 4)),⟨.t 6,.mv (.l 0),some ((.t 5),true)⟩,⟨.t 7,.call 135 [.t 6],some ((.t 5),true)⟩,⟨.t 8,.un .not (.t 7),some ((.t 5),true)⟩,iT 9 (.pick (.t 5) (.t 8) (.c (.p (.b false)))),iL 2 (.mv (.t 9))]) (
 .ret))
theorem mc104_eq:(Tryz.f104.body.map (compile lv104 Tryz.prog 10))=some mc104:=by kernel_rfl
def mr104:List MR:=[.t 2]
theorem mr104_eq:cRess lv104 Tryz.prog Tryz.f104.results.toList=some mr104:=by kernel_rfl
theorem call104:CallT Tryz.prog 104 10 mc104 mr104:=acall_mc (by kernel_rfl) Tryz.func104 mc104_eq Tryz.ntmps104 (by kernel_rfl) mr104_eq
/- slices.ContainsFunc[[]string,string] -/
def lv105:List Nat:=[0,1,4]
def mc105:MC :=
.seq (.reg [
 iL 4 (.mv (.c (.p (.b false))))]) (
 .seq (.reg [
 iT 5 (.mv (.l 0)),iT 6 (.mv (.l 1)),iT 7 (.call 136 [.t 5,.t 6]),iT 8 (.bin .geq (.t 7) (cI 0)),iL 4 (.mv (.t 8))]) (
 .ret))
theorem mc105_eq:(Tryz.f105.body.map (compile lv105 Tryz.prog 9))=some mc105:=by kernel_rfl
def mr105:List MR:=[.t 4]
theorem mr105_eq:cRess lv105 Tryz.prog Tryz.f105.results.toList=some mr105:=by kernel_rfl
theorem call105:CallT Tryz.prog 105 9 mc105 mr105:=acall_mc (by kernel_rfl) Tryz.func105 mc105_eq Tryz.ntmps105 (by kernel_rfl) mr105_eq
/- impl.dataOk$1 -/
def lv106:List Nat:=[0,2]
def mc106:MC :=
.seq (.reg [
 iL 2 (.mv (.c (.p (.b false))))]) (
 .seq (.reg [
 iT 3 (.mv (.l 0)),iT 4 (.call 107 [.t 3,.c (.clo 108 [])]),iT 5 (.un .not (.t 4)),iL 2 (.mv (.t 5))]) (
 .ret))
theorem mc106_eq:(Tryz.f106.body.map (compile lv106 Tryz.prog 6))=some mc106:=by kernel_rfl
def mr106:List MR:=[.t 2]
theorem mr106_eq:cRess lv106 Tryz.prog Tryz.f106.results.toList=some mr106:=by kernel_rfl
theorem call106:CallT Tryz.prog 106 6 mc106 mr106:=acall_mc (by kernel_rfl) Tryz.func106 mc106_eq Tryz.ntmps106 (by kernel_rfl) mr106_eq
/- impl.isName -/
def lv107:List Nat:=[0,1,4]
def mc107:MC :=
.seq (.reg [
 iL 4 (.mv (.c (.p (.b false))))]) (
 .seq (.reg [
 iT 5 (.mv (.l 0)),iT 6 (.len true (.t 5)),iT 7 (.call 127 [.t 6,.c (.p (.i .i64 1)),.c (.p (.i .i64 12))]),iT 8 (.mv (.t 7)),⟨.t 9,.mv (.l 1),some ((.t 8),true)⟩,⟨.t 10,.mv (.l 0),some ((.t 8),true)⟩,⟨.t 11,.ixt (.t 10) (cI 0),some ((.t 8),true)⟩,⟨.t 12,.calv (.t 9) [.t 11],some ((.t 8),true)⟩,iT 13 (.pick (.t 8) (.t 12) (.c (.p (.b false)))),iT 14 (.mv (.t 13)),⟨.t 15,.mv (.l 0),some ((.t 14),true)⟩,⟨.t 16,.call 137 [.t 15,.c (.p (.i .i64 0)),.c (.clo 138 [])],some ((.t 14),true)⟩,⟨.t 17,.mv (.l 0),some ((.t 14),true)⟩,⟨.t 18,.len true (.t 17),some ((.t 14),true)⟩,⟨.t 19,.bin .eql (.t 16) (.t 18),some ((.t 14),true)⟩,iT 20 (.pick (.t 14) (.t 19) (.c (.p (.b false)))),iL 4 (.mv (.t 20))]) (
 .ret))
theorem mc107_eq:(Tryz.f107.body.map (compile lv107 Tryz.prog 21))=some mc107:=by kernel_rfl
def mr107:List MR:=[.t 4]
theorem mr107_eq:cRess lv107 Tryz.prog Tryz.f107.results.toList=some mr107:=by kernel_rfl
theorem call107:CallT Tryz.prog 107 21 mc107 mr107:=acall_mc (by kernel_rfl) Tryz.func107 mc107_eq Tryz.ntmps107 (by kernel_rfl) mr107_eq
/- impl.small -/
def lv108:List Nat:=[0,2]
def mc108:MC :=
.seq (.reg [
 iL 2 (.mv (.c (.p (.b false))))]) (
 .seq (.reg [
 iT 3 (.mv (.l 0)),iT 4 (.bin .geq (.t 3) (.c (.p (.i .u8 97)))),iT 5 (.mv (.t 4)),⟨.t 6,.mv (.l 0),some ((.t 5),true)⟩,⟨.t 7,.bin .leq (.t 6) (.c (.p (.i .u8 122))),some ((.t 5),true)⟩,iT 8 (.pick (.t 5) (.t 7) (.c (.p (.b false)))),iL 2 (.mv (.t 8))]) (
 .ret))
theorem mc108_eq:(Tryz.f108.body.map (compile lv108 Tryz.prog 9))=some mc108:=by kernel_rfl
def mr108:List MR:=[.t 2]
theorem mr108_eq:cRess lv108 Tryz.prog Tryz.f108.results.toList=some mr108:=by kernel_rfl
theorem call108:CallT Tryz.prog 108 9 mc108 mr108:=acall_mc (by kernel_rfl) Tryz.func108 mc108_eq Tryz.ntmps108 (by kernel_rfl) mr108_eq
/- (*impl.tableMaker).ty$1 -/
def lv109:List Nat:=[0,1,2,3]
def mc109:MC :=
.seq (.reg [
 iL 2 (.box 4 (.l 0)),iL 3 (.mv (.c (.p (.b false))))]) (
 .seq (.reg [
 iT 4 (.fad 0 (.l 2)),iT 5 (.ld false 1 (.t 4)),iT 6 (.fad 1 (.l 1)),iT 7 (.ld false 1 (.t 6)),iT 8 (.bin .eql (.t 5) (.t 7)),iT 9 (.mv (.t 8)),⟨.t 10,.fad 1 (.l 2),some ((.t 9),true)⟩,⟨.t 11,.ld false 1 (.t 10),some ((.t 9),true)⟩,⟨.t 12,.len false (.t 11),some ((.t 9),true)⟩,⟨.t 13,.fad 3 (.l 1),some ((.t 9),true)⟩,⟨.t 14,.ld false 1 (.t 13),some ((.t 9),true)⟩,⟨.t 15,.len false (.t 14),some ((.t 9),true)⟩,⟨.t 16,.bin .eql (.t 12) (.t 15),some ((.t 9),true)⟩,iT 17 (.pick (.t 9) (.t 16) (.c (.p (.b false)))),iL 3 (.mv (.t 17))]) (
 .ret))
theorem mc109_eq:(Tryz.f109.body.map (compile lv109 Tryz.prog 18))=some mc109:=by kernel_rfl
def mr109:List MR:=[.t 3]
theorem mr109_eq:cRess lv109 Tryz.prog Tryz.f109.results.toList=some mr109:=by kernel_rfl
theorem call109:CallT Tryz.prog 109 18 mc109 mr109:=acall_mc (by kernel_rfl) Tryz.func109 mc109_eq Tryz.ntmps109 (by kernel_rfl) mr109_eq
/- slices.IndexFunc[[]impl.CtorInfo,impl.CtorInfo] -/
/- impl.FindCtor$1 -/
/- impl.plain -/
def lv126:List Nat:=[0,2,3,7,21]
def mc126:MC :=
.seq (.reg [
 iL 2 (.mv (.c (.p (.b false))))]) (
 .seq (.seq (.reg [
 iL 3 (.mv (cI 0))]) (
 .blk 0 (
 .loop (
 .seq (.seq (.reg [
 iT 4 (.mv (.l 3)),iT 5 (.mv (.l 0)),iT 6 (.len true (.t 5)),iL 7 (.bin .lss (.t 4) (.t 6))]) (
 .cond (.l 7) (
 .skip) (
 .exit 0))) (
 .seq (.blk 1 (
 .seq (.reg [
 iT 10 (.mv (.l 0)),iT 11 (.mv (.l 3)),iT 12 (.ixt (.t 10) (.t 11)),iT 13 (.conv .i64 (.t 12)),iT 14 (.call 127 [.t 13,.c (.p (.i .i64 32)),.c (.p (.i .i64 126))]),iT 15 (.un .not (.t 14)),iT 16 (.mv (.t 15)),⟨.t 17,.mv (.l 0),some ((.t 16),true)⟩,⟨.t 18,.mv (.l 3),some ((.t 16),true)⟩,⟨.t 19,.ixt (.t 17) (.t 18),some ((.t 16),true)⟩,⟨.t 20,.bin .neq (.t 19) (.c (.p (.i .u8 10))),some ((.t 16),true)⟩,iL 21 (.pick (.t 16) (.t 20) (.c (.p (.b false))))]) (
 .cond (.l 21) (
 .seq (.reg [
 iL 2 (.mv (.c (.p (.b false))))]) (
 .ret)) (
 .skip)))) (
 .reg [
 iT 8 (.mv (.l 3)),iT 9 (.bin .add (.t 8) (cI 1)),iL 3 (.mv (.t 9))])))))) (
 .seq (.reg [
 iL 2 (.mv (.c (.p (.b true))))]) (
 .ret)))
theorem mc126_eq:(Tryz.f126.body.map (compile lv126 Tryz.prog 22))=some mc126:=by kernel_rfl
def mr126:List MR:=[.t 2]
theorem mr126_eq:cRess lv126 Tryz.prog Tryz.f126.results.toList=some mr126:=by kernel_rfl
theorem call126:CallT Tryz.prog 126 22 mc126 mr126:=acall_mc (by kernel_rfl) Tryz.func126 mc126_eq Tryz.ntmps126 (by kernel_rfl) mr126_eq
/- impl.within -/
def lv127:List Nat:=[0,1,2,6]
def mc127:MC :=
.seq (.reg [
 iL 6 (.mv (.c (.p (.b false))))]) (
 .seq (.reg [
 iT 7 (.mv (.l 0)),iT 8 (.mv (.l 1)),iT 9 (.bin .geq (.t 7) (.t 8)),iT 10 (.mv (.t 9)),⟨.t 11,.mv (.l 0),some ((.t 10),true)⟩,⟨.t 12,.mv (.l 2),some ((.t 10),true)⟩,⟨.t 13,.bin .leq (.t 11) (.t 12),some ((.t 10),true)⟩,iT 14 (.pick (.t 10) (.t 13) (.c (.p (.b false)))),iL 6 (.mv (.t 14))]) (
 .ret))
theorem mc127_eq:(Tryz.f127.body.map (compile lv127 Tryz.prog 15))=some mc127:=by kernel_rfl
def mr127:List MR:=[.t 6]
theorem mr127_eq:cRess lv127 Tryz.prog Tryz.f127.results.toList=some mr127:=by kernel_rfl
theorem call127:CallT Tryz.prog 127 15 mc127 mr127:=acall_mc (by kernel_rfl) Tryz.func127 mc127_eq Tryz.ntmps127 (by kernel_rfl) mr127_eq
/- impl.binarySign -/
def lv128:List Nat:=[0,2]
def mc128:MC :=
.seq (.reg [
 iL 2 (.mv (.c (.p (.b false))))]) (
 .seq (.reg [
 iT 3 (.bsl 1 [.p (.s [])] 7 [(0,(.c (.p (.s [43])))),(1,(.c (.p (.s [45])))),(2,(.c (.p (.s [42])))),(3,(.c (.p (.s [94])))),(4,(.c (.p (.s [61])))),(5,(.c (.p (.s [60])))),(6,(.c (.p (.s [58,61]))))]),iT 4 (.mv (.l 0)),iT 5 (.call 33 [.t 3,.t 4]),iL 2 (.mv (.t 5))]) (
 .ret))
theorem mc128_eq:(Tryz.f128.body.map (compile lv128 Tryz.prog 6))=some mc128:=by kernel_rfl
def mr128:List MR:=[.t 2]
theorem mr128_eq:cRess lv128 Tryz.prog Tryz.f128.results.toList=some mr128:=by kernel_rfl
theorem call128:CallT Tryz.prog 128 6 mc128 mr128:=acall_mc (by kernel_rfl) Tryz.func128 mc128_eq Tryz.ntmps128 (by kernel_rfl) mr128_eq
/- impl.primArity -/
def lv129:List Nat:=[0,2,3,4,6]
def mc129:MC :=
.seq (.reg [
 iL 2 (.mv (cI 0))]) (
 .seq (.seq (.reg [
 iL 3 (.mv (.l 0))]) (
 .blk 0 (
 .seq (.reg [
 iT 5 (.bin .eql (.l 3) (.c (.p (.s [114,101,97,100])))),iL 4 (.mv (.t 5))]) (
 .cond (.l 4) (
 .seq (.reg [
 iL 2 (.mv (cI 0))]) (
 .ret)) (
 .seq (.seq (.reg [
 iT 7 (.bin .eql (.l 3) (.c (.p (.s [112,114,105,110,116])))),iL 6 (.mv (.t 7))]) (
 .cond (.l 6) (
 .skip) (
 .seq (.reg [
 iT 8 (.bin .eql (.l 3) (.c (.p (.s [101,120,105,116])))),iL 6 (.mv (.t 8))]) (
 .cond (.l 6) (
 .skip) (
 .seq (.reg [
 iT 9 (.bin .eql (.l 3) (.c (.p (.s [115,105,122,101])))),iL 6 (.mv (.t 9))]) (
 .cond (.l 6) (
 .skip) (
 .seq (.reg [
 iT 10 (.bin .eql (.l 3) (.c (.p (.s [114,101,102])))),iL 6 (.mv (.t 10))]) (
 .cond (.l 6) (
 .skip) (
 .reg [
 iT 11 (.bin .eql (.l 3) (.c (.p (.s [33])))),iL 6 (.mv (.t 11))]))))))))) (
 .cond (.l 6) (
 .seq (.reg [
 iL 2 (.mv (cI 1))]) (
 .ret)) (
 .skip))))))) (
 .seq (.reg [
 iL 2 (.mv (cI (-1)))]) (
 .ret)))
theorem mc129_eq:(Tryz.f129.body.map (compile lv129 Tryz.prog 12))=some mc129:=by kernel_rfl
def mr129:List MR:=[.t 2]
theorem mr129_eq:cRess lv129 Tryz.prog Tryz.f129.results.toList=some mr129:=by kernel_rfl
theorem call129:CallT Tryz.prog 129 12 mc129 mr129:=acall_mc (by kernel_rfl) Tryz.func129 mc129_eq Tryz.ntmps129 (by kernel_rfl) mr129_eq
/- slices.ContainsFunc[[]impl.Pat,impl.Pat] -/
def lv130:List Nat:=[0,1,4]
def mc130:MC :=
.seq (.reg [
 iL 4 (.mv (.c (.p (.b false))))]) (
 .seq (.reg [
 iT 5 (.mv (.l 0)),iT 6 (.mv (.l 1)),iT 7 (.call 146 [.t 5,.t 6]),iT 8 (.bin .geq (.t 7) (cI 0)),iL 4 (.mv (.t 8))]) (
 .ret))
theorem mc130_eq:(Tryz.f130.body.map (compile lv130 Tryz.prog 9))=some mc130:=by kernel_rfl
def mr130:List MR:=[.t 4]
theorem mr130_eq:cRess lv130 Tryz.prog Tryz.f130.results.toList=some mr130:=by kernel_rfl
theorem call130:CallT Tryz.prog 130 9 mc130 mr130:=acall_mc (by kernel_rfl) Tryz.func130 mc130_eq Tryz.ntmps130 (by kernel_rfl) mr130_eq
/- impl.patOk$1 -/
def lv131:List Nat:=[0,1,2]
def mc131:MC :=
.seq (.reg [
 iL 1 (.box 5 (.l 0)),iL 2 (.mv (.c (.p (.b false))))]) (
 .seq (.reg [
 iT 3 (.ld true 5 (.l 1)),iT 4 (.call 100 [.t 3]),iT 5 (.un .not (.t 4)),iL 2 (.mv (.t 5))]) (
 .ret))
theorem mc131_eq:(Tryz.f131.body.map (compile lv131 Tryz.prog 6))=some mc131:=by kernel_rfl
def mr131:List MR:=[.t 2]
theorem mr131_eq:cRess lv131 Tryz.prog Tryz.f131.results.toList=some mr131:=by kernel_rfl
theorem call131:CallT Tryz.prog 131 6 mc131 mr131:=acall_mc (by kernel_rfl) Tryz.func131 mc131_eq Tryz.ntmps131 (by kernel_rfl) mr131_eq
/- impl.great -/
def lv132:List Nat:=[0,2]
def mc132:MC :=
.seq (.reg [
 iL 2 (.mv (.c (.p (.b false))))]) (
 .seq (.reg [
 iT 3 (.mv (.l 0)),iT 4 (.bin .geq (.t 3) (.c (.p (.i .u8 65)))),iT 5 (.mv (.t 4)),⟨.t 6,.mv (.l 0),some ((.t 5),true)⟩,⟨.t 7,.bin .leq (.t 6) (.c (.p (.i .u8 90))),some ((.t 5),true)⟩,iT 8 (.pick (.t 5) (.t 7) (.c (.p (.b false)))),iL 2 (.mv (.t 8))]) (
 .ret))
theorem mc132_eq:(Tryz.f132.body.map (compile lv132 Tryz.prog 9))=some mc132:=by kernel_rfl
def mr132:List MR:=[.t 2]
theorem mr132_eq:cRess lv132 Tryz.prog Tryz.f132.results.toList=some mr132:=by kernel_rfl
theorem call132:CallT Tryz.prog 132 9 mc132 mr132:=acall_mc (by kernel_rfl) Tryz.func132 mc132_eq Tryz.ntmps132 (by kernel_rfl) mr132_eq
/- slices.ContainsFunc[[]impl.TypeExp,impl.TypeExp] -/
def lv133:List Nat:=[0,1,4]
def mc133:MC :=
.seq (.reg [
 iL 4 (.mv (.c (.p (.b false))))]) (
 .seq (.reg [
 iT 5 (.mv (.l 0)),iT 6 (.mv (.l 1)),iT 7 (.call 147 [.t 5,.t 6]),iT 8 (.bin .geq (.t 7) (cI 0)),iL 4 (.mv (.t 8))]) (
 .ret))
theorem mc133_eq:(Tryz.f133.body.map (compile lv133 Tryz.prog 9))=some mc133:=by kernel_rfl
def mr133:List MR:=[.t 4]
theorem mr133_eq:cRess lv133 Tryz.prog Tryz.f133.results.toList=some mr133:=by kernel_rfl
theorem call133:CallT Tryz.prog 133 9 mc133 mr133:=acall_mc (by kernel_rfl) Tryz.func133 mc133_eq Tryz.ntmps133 (by kernel_rfl) mr133_eq
/- impl.typeOk$1 -/
def lv134:List Nat:=[0,1,2]
def mc134:MC :=
.seq (.reg [
 iL 1 (.box 4 (.l 0)),iL 2 (.mv (.c (.p (.b false))))]) (
 .seq (.reg [
 iT 3 (.ld true 4 (.l 1)),iT 4 (.call 102 [.t 3]),iT 5 (.un .not (.t 4)),iL 2 (.mv (.t 5))]) (
 .ret))
theorem mc134_eq:(Tryz.f134.body.map (compile lv134 Tryz.prog 6))=some mc134:=by kernel_rfl
def mr134:List MR:=[.t 2]
theorem mr134_eq:cRess lv134 Tryz.prog Tryz.f134.results.toList=some mr134:=by kernel_rfl
theorem call134:CallT Tryz.prog 134 6 mc134 mr134:=acall_mc (by kernel_rfl) Tryz.func134 mc134_eq Tryz.ntmps134 (by kernel_rfl) mr134_eq
/- impl.isKey -/
def lv135:List Nat:=[0,2]
def mc135:MC :=
.seq (.reg [
 iL 2 (.mv (.c (.p (.b false))))]) (
 .seq (.reg [
 iT 3 (.bsl 1 [.p (.s [])] 19 [(0,(.c (.p (.s [116,121,112,101])))),(1,(.c (.p (.s [111,102])))),(2,(.c (.p (.s [108,101,116])))),(3,(.c (.p (.s [114,101,99])))),(4,(.c (.p (.s [105,110])))),(5,(.c (.p (.s [102,117,110])))),(6,(.c (.p (.s [105,102])))),(7,(.c (.p (.s [116,104,101,110])))),(8,(.c (.p (.s [101,108,115,101])))),(9,(.c (.p (.s [109,97,116,99,104])))),(10,(.c (.p (.s [119,105,116,104])))),(11,(.c (.p (.s [101,110,100])))),(12,(.c (.p (.s [116,114,117,101])))),(13,(.c (.p (.s [102,97,108,115,101])))),(14,(.c (.p (.s [114,101,102])))),(15,(.c (.p (.s [114,101,97,100])))),(16,(.c (.p (.s [112,114,105,110,116])))),(17,(.c (.p (.s [101,120,105,116])))),(18,(.c (.p (.s [115,105,122,101]))))]),iT 4 (.mv (.l 0)),iT 5 (.call 33 [.t 3,.t 4]),iL 2 (.mv (.t 5))]) (
 .ret))
theorem mc135_eq:(Tryz.f135.body.map (compile lv135 Tryz.prog 6))=some mc135:=by kernel_rfl
def mr135:List MR:=[.t 2]
theorem mr135_eq:cRess lv135 Tryz.prog Tryz.f135.results.toList=some mr135:=by kernel_rfl
theorem call135 {args:List AV} {H:List AO} {Q:AV→List AO→Prop} (hla:args.length≤6):wpm (ACall Tryz.prog) mc135 (finK mr135 Q) ⟨argEnv 0 args,[],H⟩→ACall Tryz.prog 135 args H Q :=
 @acall_mc Tryz.prog (by kernel_rfl) 135 Tryz.f135 lv135 6 mc135 mr135 Tryz.func135 mc135_eq Tryz.ntmps135 (by kernel_rfl) mr135_eq args H Q hla
/- slices.IndexFunc[[]string,string] -/
def lv136:List Nat:=[0,1,4,5,7,8,9,16]
def mc136:MC :=
.seq (.reg [
 iL 4 (.mv (cI 0))]) (
 .seq (.seq (.reg [
 iT 6 (.mv (.l 0)),iL 7 (.len false (.t 6)),iL 8 (.mv (cI 0))]) (
 .blk 0 (
 .loop (
 .seq (.reg [
 iL 9 (.bin .lss (.l 8) (.l 7))]) (
 .seq (.cond (.l 9) (
 .skip) (
 .exit 0)) (
 .seq (.blk 1 (
 .seq (.reg [
 iT 10 (.mv (.l 8)),iL 5 (.mv (.t 10))]) (
 .seq (.reg [
 iT 11 (.mv (.l 1)),iT 12 (.mv (.l 0)),iT 13 (.mv (.l 5)),iT 14 (.ixs 1 (.t 12) (.t 13)),iT 15 (.ld false 1 (.t 14)),iL 16 (.calv (.t 11) [.t 15])]) (
 .cond (.l 16) (
 .seq (.reg [
 iT 17 (.mv (.l 5)),iL 4 (.mv (.t 17))]) (
 .ret)) (
 .skip))))) (
 .reg [
 iT 18 (.bin .add (.l 8) (cI 1)),iL 8 (.mv (.t 18))]))))))) (
 .seq (.reg [
 iL 4 (.mv (cI (-1)))]) (
 .ret)))
theorem mc136_eq:(Tryz.f136.body.map (compile lv136 Tryz.prog 19))=some mc136:=by kernel_rfl
def mr136:List MR:=[.t 4]
theorem mr136_eq:cRess lv136 Tryz.prog Tryz.f136.results.toList=some mr136:=by kernel_rfl
theorem call136:CallT Tryz.prog 136 19 mc136 mr136:=acall_mc (by kernel_rfl) Tryz.func136 mc136_eq Tryz.ntmps136 (by kernel_rfl) mr136_eq
/- impl.run -/
def lv137:List Nat:=[0,1,2,6,17]
def mc137:MC :=
.seq (.reg [
 iL 6 (.mv (cI 0))]) (
 .seq (.blk 0 (
 .loop (
 .seq (.seq (.reg [
 iT 7 (.mv (.l 1)),iT 8 (.mv (.l 0)),iT 9 (.len true (.t 8)),iT 10 (.bin .lss (.t 7) (.t 9)),iT 11 (.mv (.t 10)),⟨.t 12,.mv (.l 2),some ((.t 11),true)⟩,⟨.t 13,.mv (.l 0),some ((.t 11),true)⟩,⟨.t 14,.mv (.l 1),some ((.t 11),true)⟩,⟨.t 15,.ixt (.t 13) (.t 14),some ((.t 11),true)⟩,⟨.t 16,.calv (.t 12) [.t 15],some ((.t 11),true)⟩,iL 17 (.pick (.t 11) (.t 16) (.c (.p (.b false))))]) (
 .cond (.l 17) (
 .skip) (
 .exit 0))) (
 .blk 1 (
 .reg [
 iT 18 (.mv (.l 1)),iT 19 (.bin .add (.t 18) (cI 1)),iL 1 (.mv (.t 19))]))))) (
 .seq (.reg [
 iT 20 (.mv (.l 1)),iL 6 (.mv (.t 20))]) (
 .ret)))
theorem mc137_eq:(Tryz.f137.body.map (compile lv137 Tryz.prog 21))=some mc137:=by kernel_rfl
def mr137:List MR:=[.t 6]
theorem mr137_eq:cRess lv137 Tryz.prog Tryz.f137.results.toList=some mr137:=by kernel_rfl
theorem call137:CallT Tryz.prog 137 21 mc137 mr137:=acall_mc (by kernel_rfl) Tryz.func137 mc137_eq Tryz.ntmps137 (by kernel_rfl) mr137_eq
/- impl.nameByte -/
def lv138:List Nat:=[0,2]
def mc138:MC :=
.seq (.reg [
 iL 2 (.mv (.c (.p (.b false))))]) (
 .seq (.reg [
 iT 3 (.mv (.l 0)),iT 4 (.call 108 [.t 3]),iT 5 (.mv (.t 4)),⟨.t 6,.mv (.l 0),some ((.t 5),false)⟩,⟨.t 7,.call 132 [.t 6],some ((.t 5),false)⟩,iT 8 (.pick (.t 5) (.c (.p (.b true))) (.t 7)),iT 9 (.mv (.t 8)),⟨.t 10,.mv (.l 0),some ((.t 9),false)⟩,⟨.t 11,.call 148 [.t 10],some ((.t 9),false)⟩,iT 12 (.pick (.t 9) (.c (.p (.b true))) (.t 11)),iT 13 (.mv (.t 12)),⟨.t 14,.mv (.l 0),some ((.t 13),false)⟩,⟨.t 15,.bin .eql (.t 14) (.c (.p (.i .u8 95))),some ((.t 13),false)⟩,iT 16 (.pick (.t 13) (.c (.p (.b true))) (.t 15)),iL 2 (.mv (.t 16))]) (
 .ret))
theorem mc138_eq:(Tryz.f138.body.map (compile lv138 Tryz.prog 17))=some mc138:=by kernel_rfl
def mr138:List MR:=[.t 2]
theorem mr138_eq:cRess lv138 Tryz.prog Tryz.f138.results.toList=some mr138:=by kernel_rfl
theorem call138:CallT Tryz.prog 138 17 mc138 mr138:=acall_mc (by kernel_rfl) Tryz.func138 mc138_eq Tryz.ntmps138 (by kernel_rfl) mr138_eq
/- slices.IndexFunc[[]impl.Pat,impl.Pat] -/
def lv146:List Nat:=[0,1,4,5,7,8,9,16]
def mc146:MC :=
.seq (.reg [
 iL 4 (.mv (cI 0))]) (
 .seq (.seq (.reg [
 iT 6 (.mv (.l 0)),iL 7 (.len false (.t 6)),iL 8 (.mv (cI 0))]) (
 .blk 0 (
 .loop (
 .seq (.reg [
 iL 9 (.bin .lss (.l 8) (.l 7))]) (
 .seq (.cond (.l 9) (
 .skip) (
 .exit 0)) (
 .seq (.blk 1 (
 .seq (.reg [
 iT 10 (.mv (.l 8)),iL 5 (.mv (.t 10))]) (
 .seq (.reg [
 iT 11 (.mv (.l 1)),iT 12 (.mv (.l 0)),iT 13 (.mv (.l 5)),iT 14 (.ixs 5 (.t 12) (.t 13)),iT 15 (.ld true 5 (.t 14)),iL 16 (.calv (.t 11) [.t 15])]) (
 .cond (.l 16) (
 .seq (.reg [
 iT 17 (.mv (.l 5)),iL 4 (.mv (.t 17))]) (
 .ret)) (
 .skip))))) (
 .reg [
 iT 18 (.bin .add (.l 8) (cI 1)),iL 8 (.mv (.t 18))]))))))) (
 .seq (.reg [
 iL 4 (.mv (cI (-1)))]) (
 .ret)))
theorem mc146_eq:(Tryz.f146.body.map (compile lv146 Tryz.prog 19))=some mc146:=by kernel_rfl
def mr146:List MR:=[.t 4]
theorem mr146_eq:cRess lv146 Tryz.prog Tryz.f146.results.toList=some mr146:=by kernel_rfl
theorem call146:CallT Tryz.prog 146 19 mc146 mr146:=acall_mc (by kernel_rfl) Tryz.func146 mc146_eq Tryz.ntmps146 (by kernel_rfl) mr146_eq
/- slices.IndexFunc[[]impl.TypeExp,impl.TypeExp] -/
def lv147:List Nat:=[0,1,4,5,7,8,9,16]
def mc147:MC :=
.seq (.reg [
 iL 4 (.mv (cI 0))]) (
 .seq (.seq (.reg [
 iT 6 (.mv (.l 0)),iL 7 (.len false (.t 6)),iL 8 (.mv (cI 0))]) (
 .blk 0 (
 .loop (
 .seq (.reg [
 iL 9 (.bin .lss (.l 8) (.l 7))]) (
 .seq (.cond (.l 9) (
 .skip) (
 .exit 0)) (
 .seq (.blk 1 (
 .seq (.reg [
 iT 10 (.mv (.l 8)),iL 5 (.mv (.t 10))]) (
 .seq (.reg [
 iT 11 (.mv (.l 1)),iT 12 (.mv (.l 0)),iT 13 (.mv (.l 5)),iT 14 (.ixs 4 (.t 12) (.t 13)),iT 15 (.ld true 4 (.t 14)),iL 16 (.calv (.t 11) [.t 15])]) (
 .cond (.l 16) (
 .seq (.reg [
 iT 17 (.mv (.l 5)),iL 4 (.mv (.t 17))]) (
 .ret)) (
 .skip))))) (
 .reg [
 iT 18 (.bin .add (.l 8) (cI 1)),iL 8 (.mv (.t 18))]))))))) (
 .seq (.reg [
 iL 4 (.mv (cI (-1)))]) (
 .ret)))
theorem mc147_eq:(Tryz.f147.body.map (compile lv147 Tryz.prog 19))=some mc147:=by kernel_rfl
def mr147:List MR:=[.t 4]
theorem mr147_eq:cRess lv147 Tryz.prog Tryz.f147.results.toList=some mr147:=by kernel_rfl
theorem call147:CallT Tryz.prog 147 19 mc147 mr147:=acall_mc (by kernel_rfl) Tryz.func147 mc147_eq Tryz.ntmps147 (by kernel_rfl) mr147_eq
/- impl.digit -/
def lv148:List Nat:=[0,2]
def mc148:MC :=
.seq (.reg [
 iL 2 (.mv (.c (.p (.b false))))]) (
 .seq (.reg [
 iT 3 (.mv (.l 0)),iT 4 (.bin .geq (.t 3) (.c (.p (.i .u8 48)))),iT 5 (.mv (.t 4)),⟨.t 6,.mv (.l 0),some ((.t 5),true)⟩,⟨.t 7,.bin .leq (.t 6) (.c (.p (.i .u8 57))),some ((.t 5),true)⟩,iT 8 (.pick (.t 5) (.t 7) (.c (.p (.b false)))),iL 2 (.mv (.t 8))]) (
 .ret))
theorem mc148_eq:(Tryz.f148.body.map (compile lv148 Tryz.prog 9))=some mc148:=by kernel_rfl
def mr148:List MR:=[.t 2]
theorem mr148_eq:cRess lv148 Tryz.prog Tryz.f148.results.toList=some mr148:=by kernel_rfl
theorem call148:CallT Tryz.prog 148 9 mc148 mr148:=acall_mc (by kernel_rfl) Tryz.func148 mc148_eq Tryz.ntmps148 (by kernel_rfl) mr148_eq
end Go.Proofs.YtnelfbcgplooiaaGreat.Mc
/- Words, as both judge them. -/
set_option linter.all false
namespace Go.Proofs.YtnelfbcgplooiaaGreat.Pg
open Go.AM Mc
theorem withinC (n lo hi:Int) (H:List AO):ACall Tryz.prog 127 [.p (.i .i64 n),.p (.i .i64 lo),.p (.i .i64 hi)] H (pureQ (.p (.b (decide (lo≤n) && decide (n≤hi)))) H):=by
 refine call127 (by simp) ?_
 simp only [go_sem,reduceIte,↓reduceIte,sevalprocAttr,Z0,Z1,bytesOf,mc127,mr127]
 cases h:decide (lo≤n)
 ·simp only [go_sem,reduceIte,↓reduceIte,sevalprocAttr,Z0,Z1,bytesOf,h,Bool.false_and]
  exact ⟨rfl,rfl⟩
 ·simp only [go_sem,reduceIte,↓reduceIte,sevalprocAttr,Z0,Z1,bytesOf,h,Bool.true_and]
  exact ⟨rfl,rfl⟩
theorem inC (n lo hi:Int) (H:List AO):ACall Tryz.prog 93 [.p (.i .i64 n),.p (.i .i64 lo),.p (.i .i64 hi)] H (pureQ (.p (.b (decide (lo≤n) && decide (n≤hi)))) H):=by
 refine call93 (by simp) ?_
 simp only [go_sem,reduceIte,↓reduceIte,sevalprocAttr,Z0,Z1,bytesOf,mc93,mr93]
 cases h:decide (lo≤n)
 ·simp only [go_sem,reduceIte,↓reduceIte,sevalprocAttr,Z0,Z1,bytesOf,h,Bool.false_and]
  exact ⟨rfl,rfl⟩
 ·simp only [go_sem,reduceIte,↓reduceIte,sevalprocAttr,Z0,Z1,bytesOf,h,Bool.true_and]
  exact ⟨rfl,rfl⟩
theorem dLe (a:Nat) (c:UInt8):decide ((a:Int)≤((c.toNat:Nat):Int))=decide (a≤c.toNat):=by rw [decide_eq_decide]; omega
theorem dGe (a:Nat) (c:UInt8):decide (((c.toNat:Nat):Int)≤(a:Int))=decide (c.toNat≤a):=by rw [decide_eq_decide]; omega
theorem dEq (a:Nat) (c:UInt8):decide (((c.toNat:Nat):Int)=(a:Int))=decide (c.toNat=a):=by rw [decide_eq_decide]; omega
theorem wrB (c:UInt8):wr .i64 ((c.toNat:Nat):Int)=((c.toNat:Nat):Int):=by
 have:=c.toNat_lt
 exact wr64 (by omega) (by omega)
theorem smallC (c:UInt8) (H:List AO):ACall Tryz.prog 108 [.p (.i .u8 c.toNat)] H (pureQ (.p (.b (isSmallB c))) H):=by
 have e1:decide ((97:Int)≤((c.toNat:Nat):Int))=decide (97≤c.toNat):=dLe 97 c
 have e2:decide (((c.toNat:Nat):Int)≤(122:Int))=decide (c.toNat≤122):=dGe 122 c
 refine call108 (by simp) ?_
 simp only [go_sem,reduceIte,↓reduceIte,sevalprocAttr,Z0,Z1,bytesOf,mc108,mr108,isSmallB,e1,e2]
 cases h:decide (97≤c.toNat)
 ·simp only [go_sem,reduceIte,↓reduceIte,sevalprocAttr,Z0,Z1,bytesOf,h,Bool.false_and]
  exact ⟨rfl,rfl⟩
 ·simp only [go_sem,reduceIte,↓reduceIte,sevalprocAttr,Z0,Z1,bytesOf,h,Bool.true_and,e2]
  exact ⟨rfl,rfl⟩
theorem greatC (c:UInt8) (H:List AO):ACall Tryz.prog 132 [.p (.i .u8 c.toNat)] H (pureQ (.p (.b (isGreatB c))) H):=by
 have e1:decide ((65:Int)≤((c.toNat:Nat):Int))=decide (65≤c.toNat):=dLe 65 c
 have e2:decide (((c.toNat:Nat):Int)≤(90:Int))=decide (c.toNat≤90):=dGe 90 c
 refine call132 (by simp) ?_
 simp only [go_sem,reduceIte,↓reduceIte,sevalprocAttr,Z0,Z1,bytesOf,mc132,mr132,isGreatB,e1,e2]
 cases h:decide (65≤c.toNat)
 ·simp only [go_sem,reduceIte,↓reduceIte,sevalprocAttr,Z0,Z1,bytesOf,h,Bool.false_and]
  exact ⟨rfl,rfl⟩
 ·simp only [go_sem,reduceIte,↓reduceIte,sevalprocAttr,Z0,Z1,bytesOf,h,Bool.true_and,e2]
  exact ⟨rfl,rfl⟩
theorem digitC (c:UInt8) (H:List AO):ACall Tryz.prog 148 [.p (.i .u8 c.toNat)] H (pureQ (.p (.b (isDigitB c))) H):=by
 have e1:decide ((48:Int)≤((c.toNat:Nat):Int))=decide (48≤c.toNat):=dLe 48 c
 have e2:decide (((c.toNat:Nat):Int)≤(57:Int))=decide (c.toNat≤57):=dGe 57 c
 refine call148 (by simp) ?_
 simp only [go_sem,reduceIte,↓reduceIte,sevalprocAttr,Z0,Z1,bytesOf,mc148,mr148,isDigitB,e1,e2]
 cases h:decide (48≤c.toNat)
 ·simp only [go_sem,reduceIte,↓reduceIte,sevalprocAttr,Z0,Z1,bytesOf,h,Bool.false_and]
  exact ⟨rfl,rfl⟩
 ·simp only [go_sem,reduceIte,↓reduceIte,sevalprocAttr,Z0,Z1,bytesOf,h,Bool.true_and,e2]
  exact ⟨rfl,rfl⟩
theorem nameByteC (c:UInt8) (H:List AO):ACall Tryz.prog 138 [.p (.i .u8 c.toNat)] H (pureQ (.p (.b (nameB c))) H):=by
 have e1:decide (((c.toNat:Nat):Int)=(95:Int))=decide (c.toNat=95):=dEq 95 c
 refine call138 (by simp) ?_
 simp only [go_sem,reduceIte,↓reduceIte,sevalprocAttr,Z0,Z1,bytesOf,mc138,mr138,nameB]
 refine acall_pure (smallC c H) ?_
 cases h:isSmallB c
 ·simp only [go_sem,reduceIte,↓reduceIte,sevalprocAttr,Z0,Z1,bytesOf,h]
  refine acall_pure (greatC c H) ?_
  cases h2:isGreatB c
  ·simp only [go_sem,reduceIte,↓reduceIte,sevalprocAttr,Z0,Z1,bytesOf,h2]
   refine acall_pure (digitC c H) ?_
   cases h3:isDigitB c
   ·simp only [go_sem,reduceIte,↓reduceIte,sevalprocAttr,Z0,Z1,bytesOf,h3,e1,Bool.false_or]
    exact ⟨rfl,rfl⟩
   ·simp only [go_sem,reduceIte,↓reduceIte,sevalprocAttr,Z0,Z1,bytesOf,h3,Bool.false_or,Bool.true_or]
    exact ⟨rfl,rfl⟩
  ·simp only [go_sem,reduceIte,↓reduceIte,sevalprocAttr,Z0,Z1,bytesOf,h2,Bool.false_or,Bool.true_or]
   exact ⟨rfl,rfl⟩
 ·simp only [go_sem,reduceIte,↓reduceIte,sevalprocAttr,Z0,Z1,bytesOf,h,Bool.true_or]
  exact ⟨rfl,rfl⟩
theorem lowerC (c:UInt8) (H:List AO):ACall Tryz.prog 95 [.p (.i .i64 c.toNat)] H (pureQ (.p (.b (isSmallB c))) H):=by
 have e1:decide ((97:Int)≤((c.toNat:Nat):Int))=decide (97≤c.toNat):=dLe 97 c
 have e2:decide (((c.toNat:Nat):Int)≤(122:Int))=decide (c.toNat≤122):=dGe 122 c
 refine call95 (by simp) ?_
 simp only [go_sem,reduceIte,↓reduceIte,sevalprocAttr,Z0,Z1,bytesOf,mc95,mr95]
 refine acall_pure (inC _ _ _ H) ?_
 simp only [go_sem,reduceIte,↓reduceIte,sevalprocAttr,Z0,Z1,bytesOf,isSmallB,e1,e2]
 exact ⟨rfl,rfl⟩
theorem upperC (c:UInt8) (H:List AO):ACall Tryz.prog 94 [.p (.i .i64 c.toNat)] H (pureQ (.p (.b (isGreatB c))) H):=by
 have e1:decide ((65:Int)≤((c.toNat:Nat):Int))=decide (65≤c.toNat):=dLe 65 c
 have e2:decide (((c.toNat:Nat):Int)≤(90:Int))=decide (c.toNat≤90):=dGe 90 c
 refine call94 (by simp) ?_
 simp only [go_sem,reduceIte,↓reduceIte,sevalprocAttr,Z0,Z1,bytesOf,mc94,mr94]
 refine acall_pure (inC _ _ _ H) ?_
 simp only [go_sem,reduceIte,↓reduceIte,sevalprocAttr,Z0,Z1,bytesOf,isGreatB,e1,e2]
 exact ⟨rfl,rfl⟩
theorem numC (c:UInt8) (H:List AO):ACall Tryz.prog 121 [.p (.i .i64 c.toNat)] H (pureQ (.p (.b (isDigitB c))) H):=by
 have e1:decide ((48:Int)≤((c.toNat:Nat):Int))=decide (48≤c.toNat):=dLe 48 c
 have e2:decide (((c.toNat:Nat):Int)≤(57:Int))=decide (c.toNat≤57):=dGe 57 c
 refine call121 (by simp) ?_
 simp only [go_sem,reduceIte,↓reduceIte,sevalprocAttr,Z0,Z1,bytesOf,mc121,mr121]
 refine acall_pure (inC _ _ _ H) ?_
 simp only [go_sem,reduceIte,↓reduceIte,sevalprocAttr,Z0,Z1,bytesOf,isDigitB,e1,e2]
 exact ⟨rfl,rfl⟩
theorem nameByteS (c:UInt8) (H:List AO):ACall Tryz.prog 96 [.p (.i .i64 c.toNat)] H (pureQ (.p (.b (nameB c))) H):=by
 have e1:decide (((c.toNat:Nat):Int)=(95:Int))=decide (c.toNat=95):=dEq 95 c
 refine call96 (by simp) ?_
 simp only [go_sem,reduceIte,↓reduceIte,sevalprocAttr,Z0,Z1,bytesOf,mc96,mr96,nameB]
 refine acall_pure (lowerC c H) ?_
 cases h:isSmallB c
 ·simp only [go_sem,reduceIte,↓reduceIte,sevalprocAttr,Z0,Z1,bytesOf,h]
  refine acall_pure (upperC c H) ?_
  cases h2:isGreatB c
  ·simp only [go_sem,reduceIte,↓reduceIte,sevalprocAttr,Z0,Z1,bytesOf,h2]
   refine acall_pure (numC c H) ?_
   cases h3:isDigitB c
   ·simp only [go_sem,reduceIte,↓reduceIte,sevalprocAttr,Z0,Z1,bytesOf,h3,e1,Bool.false_or]
    exact ⟨rfl,rfl⟩
   ·simp only [go_sem,reduceIte,↓reduceIte,sevalprocAttr,Z0,Z1,bytesOf,h3,Bool.false_or,Bool.true_or]
    exact ⟨rfl,rfl⟩
  ·simp only [go_sem,reduceIte,↓reduceIte,sevalprocAttr,Z0,Z1,bytesOf,h2,Bool.false_or,Bool.true_or]
   exact ⟨rfl,rfl⟩
 ·simp only [go_sem,reduceIte,↓reduceIte,sevalprocAttr,Z0,Z1,bytesOf,h,Bool.true_or]
  exact ⟨rfl,rfl⟩
theorem acall_lendP {f:Nat} {xs bs:List AV} {H:List AO} {r:AV} (h:∀ H,ACall Tryz.prog f bs H (pureQ r H)) (hg:Grnd r) (hl:LentAll H xs bs):ACall Tryz.prog f xs H (pureQ r H):=by
 refine (acall_lend (h []) (by rintro r' H' ⟨rfl,_⟩; exact hg) hl).mono ?_
 rintro r' H' ⟨rfl,H0,rfl,_⟩
 exact ⟨rfl,rfl⟩
theorem namesC_len (l):(namesC l).length=l.length:=by simp [namesC]
theorem namesC_get (l:List (List UInt8)) {i:Nat} (h:i<l.length):(namesC l)[i]?=some [.s l[i]]:=by simp [namesC,h]
theorem indexC (l : List (List UInt8)) (s : List UInt8) (H : List AO) : ACall Tryz.prog 71 [.p (.l (namesC l)), .p (.s s)] H (pureQ (.p (.i .i64 (idxI l s))) H) := by
  refine call71 (by simp) ?_
  simp only [go_sem, reduceIte, ↓reduceIte, sevalprocAttr, Z0, Z1, bytesOf, mc71, mr71, namesC_len]
  intro hl
  rw [maxLe] at hl
  refine ⟨Nat, [0, 1, 7, 8], fun x st => (x ≤ l.length ∧ idxI l s = match idx s (l.drop x) with | .none => -1 | some k => ((x + k : Nat) : Int)) ∧ st = ⟨[(0, .p (.l (namesC l))), (1, .p (.s s)), (7, .p (.i .i64 l.length)), (8, .p (.i .i64 x))], [], H⟩, fun x => l.length - x, ⟨0, ?_⟩, ?_⟩
  · simp only [go_sem, reduceIte, ↓reduceIte, sevalprocAttr, Z0, Z1, bytesOf, List.drop_zero]
    refine ⟨Nat.zero_le _, ?_⟩
    unfold idxI
    cases idx s l <;> simp
  · rintro x _ ⟨⟨hx, hv⟩, rfl⟩
    by_cases hlt : x < l.length
    · have d1 : decide ((x : Int) < (l.length : Int)) = true := by simp; omega
      have ex := wrN x (by omega)
      have hlt' : ((x : Int) < (l.length : Int)) := by omega
      rw [List.drop_eq_getElem_cons hlt, idx] at hv
      simp only [go_sem, reduceIte, ↓reduceIte, sevalprocAttr, Z0, Z1, bytesOf, d1, namesC_get _ hlt, namesC_len]
      by_cases he : l[x] = s
      · rw [if_pos he] at hv
        have d2 : decide (s = l[x]) = true := by simp [he]
        simp only [go_sem, reduceIte, ↓reduceIte, sevalprocAttr, Z0, Z1, bytesOf, d2]
        rw [hv]
        exact ⟨by simp, rfl⟩
      · rw [if_neg he] at hv
        have d2 : decide (s = l[x]) = false := by simp [Ne.symm he]
        simp only [go_sem, reduceIte, ↓reduceIte, sevalprocAttr, Z0, Z1, bytesOf, d2, ex]
        refine ⟨x + 1, ⟨⟨by omega, ?_⟩, rfl⟩, by omega⟩
        rw [hv]
        cases idx s (l.drop (x + 1)) with
        | none => rfl
        | some k =>
          show ((x + (k + 1) : Nat) : Int) = ((x + 1 + k : Nat) : Int)
          rw [show x + (k + 1) = x + 1 + k by omega]
    · have : x = l.length := by omega
      subst this
      have d1 : decide ((l.length : Int) < (l.length : Int)) = false := by simp
      rw [List.drop_length] at hv
      simp only [go_sem, reduceIte, ↓reduceIte, sevalprocAttr, Z0, Z1, bytesOf, d1]
      rw [hv]
      exact ⟨rfl, rfl⟩
theorem containsC (l : List (List UInt8)) (s : List UInt8) (H : List AO) : ACall Tryz.prog 33 [.p (.l (namesC l)), .p (.s s)] H (pureQ (.p (.b (decide (s ∈ l)))) H) := by
  refine call33 (by simp) ?_
  simp only [go_sem, reduceIte, ↓reduceIte, sevalprocAttr, Z0, Z1, bytesOf, mc33, mr33]
  refine acall_pure (indexC l s H) ?_
  have e : decide ((0 : Int) ≤ idxI l s) = decide (s ∈ l) := by
    rw [decide_eq_decide]
    unfold idxI
    cases h : idx s l with
    | none => simp [idx_none.1 h]
    | some k =>
      have := (idx_some h).1
      simp [List.mem_of_getElem? this]
  simp only [go_sem, reduceIte, ↓reduceIte, sevalprocAttr, Z0, Z1, bytesOf, e]
  exact ⟨rfl, rfl⟩
theorem containsG {l:List (List UInt8)} {s:List UInt8} {H:List AO} {j ver:Nat} (hj:H[j]?=some (.rows 1 ver ((namesC l).map fun y=>y.map .p))):ACall Tryz.prog 33 [.gs j ver 0 l.length,.p (.s s)] H (pureQ (.p (.b (decide (s∈l)))) H):=by
 refine acall_lendP (containsC l s) (grnd_b _) (lentAll_cons ?_ (lentAll_cons (.pure _) (lentAll_nil _)))
 have:=lent_rows (l:=namesC l) hj (by intro y hy; simp [namesC] at hy; obtain ⟨a,_,rfl⟩:=hy; rfl)
 rwa [namesC_len] at this
theorem isKeyC (s:List UInt8) (H:List AO):ACall Tryz.prog 135 [.p (.s s)] H (pureQ (.p (.b (decide (s∈keyL)))) H):=by
 refine acall_drop1 ?_ (tf_p _)
 refine call135 (by simp) ?_
 simp only [go_sem,reduceIte,↓reduceIte,sevalprocAttr,Z0,Z1,bytesOf,mc135,mr135]
 refine acall_pure (containsG (l:=keyL) (ver:=0) (j:=H.length) (by rw [get_off0]; rfl)) ?_
 simp only [go_sem,reduceIte,↓reduceIte,sevalprocAttr,Z0,Z1,bytesOf]
 exact ⟨_,rfl⟩
theorem keyS (s:List UInt8) (H:List AO):ACall Tryz.prog 92 [.p (.s s)] H (pureQ (.p (.b (decide (s∈keyL)))) H):=by
 refine acall_drop1 ?_ (tf_p _)
 refine call92 (by simp) ?_
 have hL:(H++[AO.rows 1 0 (keyL.map fun x=>[.p (.s x)])])[H.length]?=some (.rows 1 0 (keyL.map fun x=>[.p (.s x)])):=by rw [get_off0]; rfl
 simp only [go_sem,reduceIte,↓reduceIte,sevalprocAttr,Z0,Z1,bytesOf,mc92,mr92]
 refine ⟨Nat,[0,3,4],fun x st=>(x≤19∧s ∉ keyL.take x)∧st=⟨[(0,.p (.s s)),(3,.gs H.length 0 0 19),(4,.p (.i .i64 x))],[],H++[.rows 1 0 (keyL.map fun x=>[.p (.s x)])]⟩,fun x=>19 - x,⟨0,?_⟩,?_⟩
 ·simp only [go_sem,reduceIte,↓reduceIte,sevalprocAttr,Z0,Z1,bytesOf]
  exact ⟨by simp,rfl⟩
 ·rintro x _ ⟨⟨hx,hn⟩,rfl⟩
  have hkl:keyL.length=19:=rfl
  by_cases hlt:x<19
  ·have d1:decide ((x:Int)<(19:Int))=true:=by simp; omega
   have hlt':((x:Int)<(19:Int)):=by omega
   have ex:=wrN x (by omega)
   have hg:(keyL.map fun x=>[AV.p (.s x)])[x]?=some [.p (.s (keyL[x]'hlt))]:=by
    rw [List.getElem?_map,List.getElem?_eq_getElem hlt]; rfl
   simp only [go_sem,reduceIte,↓reduceIte,sevalprocAttr,Z0,Z1,bytesOf,d1,hL,hg,hlt']
   intros
   by_cases he:keyL[x]'hlt=s
   ·have d2:decide (keyL[x]'hlt=s)=true:=by simp [he]
    have d3:decide (s∈keyL)=true:=by rw [← he]; exact decide_eq_true (List.getElem_mem hlt)
    simp only [go_sem,reduceIte,↓reduceIte,sevalprocAttr,Z0,Z1,bytesOf,d2,d3]
    exact ⟨_,rfl⟩
   ·have d2:decide (keyL[x]'hlt=s)=false:=by simp [he]
    simp only [go_sem,reduceIte,↓reduceIte,sevalprocAttr,Z0,Z1,bytesOf,d2,ex]
    refine ⟨x+1,⟨⟨by omega,?_⟩,rfl⟩,by omega⟩
    rw [List.take_succ,List.getElem?_eq_getElem hlt]
    simp [hn,Ne.symm he]
  ·have:x=19:=by omega
   subst this
   have d3:decide (s∈keyL)=false:=decide_eq_false hn
   have d1:decide (((19:Nat):Int)<(19:Int))=false:=by decide
   simp only [go_sem,reduceIte,↓reduceIte,sevalprocAttr,Z0,Z1,bytesOf,d1,d3]
   intros
   exact ⟨_,rfl⟩
theorem all_take {p:UInt8→Bool} {s:List UInt8} {x:Nat} (h:x<s.length):(s.take (x+1)).all p=((s.take x).all p && p s[x]):=by
 have e:s.take (x+1)=s.take x++[s[x]]:=by rw [List.take_succ,List.getElem?_eq_getElem h]; rfl
 rw [e,List.all_append]
 simp only [List.all_cons,List.all_nil,Bool.and_true]
theorem all_not {p:UInt8→Bool} {s:List UInt8} {x:Nat} (h:x<s.length) (hp:p s[x]=false):s.all p=false:=by
 rw [List.all_eq_false]
 exact ⟨s[x],List.getElem_mem h,by simp [hp]⟩
theorem runC (s:List UInt8) (H:List AO):ACall Tryz.prog 137 [.p (.s s),.p (.i .i64 0),.clo 138 []] H (fun r H'=>H'=H∧∃ k:Nat,r=.p (.i .i64 k)∧s.all nameB=decide (k=s.length)):=by
 refine call137 (by simp) ?_
 simp only [go_sem,reduceIte,↓reduceIte,sevalprocAttr,Z0,Z1,bytesOf,mc137,mr137]
 refine ⟨Nat,[0,1,2],fun x st=>(x≤s.length∧(s.take x).all nameB=true)∧st=⟨[(0,.p (.s s)),(1,.p (.i .i64 x)),(2,.clo 138 [])],[],H⟩,fun x=>s.length - x,⟨0,?_⟩,?_⟩
 ·simp only [go_sem,reduceIte,↓reduceIte,sevalprocAttr,Z0,Z1,bytesOf,List.take_zero]
  exact ⟨Nat.zero_le _,rfl⟩
 ·rintro x _ ⟨⟨hx,hn⟩,rfl⟩
  by_cases hlt:x<s.length
  ·have d1:decide ((x:Int)<(s.length:Int))=true:=by simp; omega
   have hg:s[x]?=some s[x]:=List.getElem?_eq_getElem hlt
   simp only [go_sem,reduceIte,↓reduceIte,sevalprocAttr,Z0,Z1,bytesOf,d1,hg]
   intro hl
   rw [maxLe] at hl
   have ex:=wrN x (by omega)
   refine acall_pure (nameByteC s[x] H) ?_
   cases hb:nameB s[x]
   ·simp only [go_sem,reduceIte,↓reduceIte,sevalprocAttr,Z0,Z1,bytesOf,hb]
    refine ⟨x,rfl,?_⟩
    rw [all_not hlt hb]
    simp; omega
   ·simp only [go_sem,reduceIte,↓reduceIte,sevalprocAttr,Z0,Z1,bytesOf,hb,ex]
    refine ⟨x+1,⟨⟨by omega,by rw [all_take hlt,hn,hb]; rfl⟩,rfl⟩,by omega⟩
  ·have:x=s.length:=by omega
   subst this
   rw [List.take_length] at hn
   have d1:decide ((s.length:Int)<(s.length:Int))=false:=by simp
   simp only [go_sem,reduceIte,↓reduceIte,sevalprocAttr,Z0,Z1,bytesOf,d1]
   intro _
   exact ⟨s.length,rfl,by rw [hn]; simp⟩
theorem lenIn (s:List UInt8):(decide ((1:Int)≤(s.length:Int)) && decide ((s.length:Int)≤12))=(decide (1≤s.length) && decide (s.length≤12)):=by
 congr 1 <;> rw [decide_eq_decide] <;> omega
theorem isNameC (g : Bool) (s : List UInt8) (H : List AO) : ACall Tryz.prog 107 [.p (.s s), .clo (if g then 132 else 108) []] H (pureQ (.p (.b (isNameD g s))) H) := by
  refine call107 (by simp) ?_
  simp only [go_sem, reduceIte, ↓reduceIte, sevalprocAttr, Z0, Z1, bytesOf, mc107, mr107]
  intro _
  refine acall_pure (withinC _ _ _ H) ?_
  rw [lenIn]
  unfold isNameD
  cases hl : decide (1 ≤ s.length) && decide (s.length ≤ 12)
  · simp only [go_sem, reduceIte, ↓reduceIte, sevalprocAttr, Z0, Z1, bytesOf, hl, Bool.false_and]
    exact ⟨rfl, rfl⟩
  · cases s with
    | nil => simp at hl
    | cons c s =>
      simp only [go_sem, reduceIte, ↓reduceIte, sevalprocAttr, Z0, Z1, bytesOf, hl, List.getElem?_cons_zero, Bool.true_and]
      intros
      have hfb : ∀ Q, pureQ (.p (.b (firstB g (c :: s)))) H = Q → ACall Tryz.prog (if g = true then 132 else 108) [.p (.i .u8 c.toNat)] H Q := by
        rintro Q rfl
        cases g
        · exact smallC c H
        · exact greatC c H
      refine acall_pure (hfb _ rfl) ?_
      cases hb : firstB g (c :: s)
      · simp only [go_sem, reduceIte, ↓reduceIte, sevalprocAttr, Z0, Z1, bytesOf, hb, Bool.false_and]
        exact ⟨rfl, rfl⟩
      · simp only [go_sem, reduceIte, ↓reduceIte, sevalprocAttr, Z0, Z1, bytesOf, hb, Bool.true_and]
        refine (runC (c :: s) H).mono ?_
        rintro r H' ⟨rfl, k, rfl, hk⟩
        have e : decide ((k : Int) = ((s.length + 1 : Nat) : Int)) = (c :: s).all nameB := by rw [hk, decide_eq_decide, List.length_cons]; omega
        simp only [go_sem, reduceIte, ↓reduceIte, sevalprocAttr, Z0, Z1, bytesOf, List.length_cons]
        intros
        simp only [go_sem, reduceIte, ↓reduceIte, sevalprocAttr, Z0, Z1, bytesOf, e]
        exact ⟨rfl, rfl⟩
theorem lowOkC (s:List UInt8) (H:List AO):ACall Tryz.prog 104 [.p (.s s)] H (pureQ (.p (.b (lowD s))) H):=by
 refine call104 (by simp) ?_
 simp only [go_sem,reduceIte,↓reduceIte,sevalprocAttr,Z0,Z1,bytesOf,mc104,mr104]
 refine acall_pure (isNameC false s H) ?_
 unfold lowD
 cases h:isNameD false s
 ·simp only [go_sem,reduceIte,↓reduceIte,sevalprocAttr,Z0,Z1,bytesOf,h,Bool.false_and]
  exact ⟨rfl,rfl⟩
 ·simp only [go_sem,reduceIte,↓reduceIte,sevalprocAttr,Z0,Z1,bytesOf,h,Bool.true_and]
  refine acall_pure (isKeyC s H) ?_
  simp only [go_sem,reduceIte,↓reduceIte,sevalprocAttr,Z0,Z1,bytesOf]
  exact ⟨rfl,rfl⟩
theorem upOkC (s:List UInt8) (H:List AO):ACall Tryz.prog 101 [.p (.s s)] H (pureQ (.p (.b (isNameD true s))) H):=by
 refine call101 (by simp) ?_
 simp only [go_sem,reduceIte,↓reduceIte,sevalprocAttr,Z0,Z1,bytesOf,mc101,mr101]
 refine acall_pure (isNameC true s H) ?_
 simp only [go_sem,reduceIte,↓reduceIte,sevalprocAttr,Z0,Z1,bytesOf]
 exact ⟨rfl,rfl⟩
theorem small_great (c:UInt8):isSmallB c=true→isGreatB c=false:=by
 unfold isSmallB isGreatB
 simp
 omega
theorem nameS (g : Bool) (s : List UInt8) (H : List AO) : ACall Tryz.prog 61 [.p (.s s), .p (.b g)] H (pureQ (.p (.b (isNameD g s))) H) := by
  refine call61 (by simp) ?_
  simp only [go_sem, reduceIte, ↓reduceIte, sevalprocAttr, Z0, Z1, bytesOf, mc61, mr61]
  intro _
  refine acall_pure (inC _ _ _ H) ?_
  rw [lenIn]
  unfold isNameD
  cases hl : decide (1 ≤ s.length) && decide (s.length ≤ 12)
  · simp only [go_sem, reduceIte, ↓reduceIte, sevalprocAttr, Z0, Z1, bytesOf, hl, Bool.false_and]
    exact ⟨rfl, rfl⟩
  · cases s with
    | nil => simp at hl
    | cons c s =>
      simp only [go_sem, reduceIte, ↓reduceIte, sevalprocAttr, Z0, Z1, bytesOf, hl, List.getElem?_cons_zero, Bool.true_and, wrB]
      intros
      refine acall_pure (upperC c H) ?_
      have hft : (false == true) = false := rfl
      have htf : (true == false) = false := rfl
      have hloop : ∀ Qx : Ex → St → Prop, True := fun _ => trivial
      cases g
      · have ef : firstB false (c :: s) = isSmallB c := rfl
        cases hb : isGreatB c
        · simp only [go_sem, reduceIte, ↓reduceIte, sevalprocAttr, Z0, Z1, bytesOf, hb, decide_false, decide_true, wrB]
          refine acall_pure (lowerC c H) ?_
          rw [ef]
          cases hs : isSmallB c
          · simp only [go_sem, reduceIte, ↓reduceIte, sevalprocAttr, Z0, Z1, bytesOf, hs, Bool.false_and]
            exact ⟨rfl, rfl⟩
          · simp only [go_sem, reduceIte, ↓reduceIte, sevalprocAttr, Z0, Z1, bytesOf, hs, Bool.true_and]
            refine ⟨Nat, [0, 5], fun x st => (x ≤ (c :: s).length ∧ ((c :: s).take x).all nameB = true) ∧ st = ⟨[(0, .p (.s (c :: s))), (5, .p (.i .i64 x))], [], H⟩, fun x => (c :: s).length - x, ⟨0, ?_⟩, ?_⟩
            · simp only [go_sem, reduceIte, ↓reduceIte, sevalprocAttr, Z0, Z1, bytesOf, List.take_zero]
              rfl
            · rintro x _ ⟨⟨hx, hn⟩, rfl⟩
              generalize hcs : c :: s = w at *
              by_cases hlt : x < w.length
              · have d1 : decide ((x : Int) < (w.length : Int)) = true := by simp; omega
                have hg : w[x]? = some w[x] := List.getElem?_eq_getElem hlt
                simp only [go_sem, reduceIte, ↓reduceIte, sevalprocAttr, Z0, Z1, bytesOf, d1, hg, wrB]
                intro hl2
                rw [maxLe] at hl2
                have ex := wrN x (by omega)
                refine acall_pure (nameByteS w[x] H) ?_
                cases hb2 : nameB w[x]
                · simp only [go_sem, reduceIte, ↓reduceIte, sevalprocAttr, Z0, Z1, bytesOf, hb2]
                  rw [all_not hlt hb2]
                  exact ⟨rfl, rfl⟩
                · simp only [go_sem, reduceIte, ↓reduceIte, sevalprocAttr, Z0, Z1, bytesOf, hb2, ex]
                  exact ⟨x + 1, ⟨⟨by omega, by rw [all_take hlt, hn, hb2]; rfl⟩, rfl⟩, by omega⟩
              · have : x = w.length := by omega
                subst this
                rw [List.take_length] at hn
                have d1 : decide ((w.length : Int) < (w.length : Int)) = false := by simp
                simp only [go_sem, reduceIte, ↓reduceIte, sevalprocAttr, Z0, Z1, bytesOf, d1]
                intro _
                rw [hn]
                exact ⟨rfl, rfl⟩
        · simp only [go_sem, reduceIte, ↓reduceIte, sevalprocAttr, Z0, Z1, bytesOf, hb, hft, Bool.not_false, wrB]
          have : isSmallB c = false := by
            cases hs : isSmallB c
            · rfl
            · rw [small_great c hs] at hb; cases hb
          rw [ef, this]
          simp only [go_sem, reduceIte, ↓reduceIte, sevalprocAttr, Z0, Z1, bytesOf, Bool.false_and]
          exact ⟨rfl, rfl⟩
      · have ef : firstB true (c :: s) = isGreatB c := rfl
        rw [ef]
        cases hb : isGreatB c
        · simp only [go_sem, reduceIte, ↓reduceIte, sevalprocAttr, Z0, Z1, bytesOf, hb, htf, Bool.not_false, wrB, Bool.false_and]
          exact ⟨rfl, rfl⟩
        · simp only [go_sem, reduceIte, ↓reduceIte, sevalprocAttr, Z0, Z1, bytesOf, hb, decide_false, decide_true, wrB, Bool.true_and]
          refine ⟨Nat, [0, 5], fun x st => (x ≤ (c :: s).length ∧ ((c :: s).take x).all nameB = true) ∧ st = ⟨[(0, .p (.s (c :: s))), (5, .p (.i .i64 x))], [], H⟩, fun x => (c :: s).length - x, ⟨0, ?_⟩, ?_⟩
          · simp only [go_sem, reduceIte, ↓reduceIte, sevalprocAttr, Z0, Z1, bytesOf, List.take_zero]
            rfl
          · rintro x _ ⟨⟨hx, hn⟩, rfl⟩
            generalize hcs : c :: s = w at *
            by_cases hlt : x < w.length
            · have d1 : decide ((x : Int) < (w.length : Int)) = true := by simp; omega
              have hg : w[x]? = some w[x] := List.getElem?_eq_getElem hlt
              simp only [go_sem, reduceIte, ↓reduceIte, sevalprocAttr, Z0, Z1, bytesOf, d1, hg, wrB]
              intro hl2
              rw [maxLe] at hl2
              have ex := wrN x (by omega)
              refine acall_pure (nameByteS w[x] H) ?_
              cases hb2 : nameB w[x]
              · simp only [go_sem, reduceIte, ↓reduceIte, sevalprocAttr, Z0, Z1, bytesOf, hb2]
                rw [all_not hlt hb2]
                exact ⟨rfl, rfl⟩
              · simp only [go_sem, reduceIte, ↓reduceIte, sevalprocAttr, Z0, Z1, bytesOf, hb2, ex]
                exact ⟨x + 1, ⟨⟨by omega, by rw [all_take hlt, hn, hb2]; rfl⟩, rfl⟩, by omega⟩
            · have : x = w.length := by omega
              subst this
              rw [List.take_length] at hn
              have d1 : decide ((w.length : Int) < (w.length : Int)) = false := by simp
              simp only [go_sem, reduceIte, ↓reduceIte, sevalprocAttr, Z0, Z1, bytesOf, d1]
              intro _
              rw [hn]
              exact ⟨rfl, rfl⟩
theorem lowS (s:List UInt8) (H:List AO):ACall Tryz.prog 60 [.p (.s s)] H (pureQ (.p (.b (lowD s))) H):=by
 refine call60 (by simp) ?_
 simp only [go_sem,reduceIte,↓reduceIte,sevalprocAttr,Z0,Z1,bytesOf,mc60,mr60]
 refine acall_pure (nameS false s H) ?_
 unfold lowD
 cases h:isNameD false s
 ·simp only [go_sem,reduceIte,↓reduceIte,sevalprocAttr,Z0,Z1,bytesOf,h,Bool.false_and]
  exact ⟨rfl,rfl⟩
 ·simp only [go_sem,reduceIte,↓reduceIte,sevalprocAttr,Z0,Z1,bytesOf,h,Bool.true_and]
  refine acall_pure (keyS s H) ?_
  simp only [go_sem,reduceIte,↓reduceIte,sevalprocAttr,Z0,Z1,bytesOf]
  exact ⟨rfl,rfl⟩
theorem eIn (c:UInt8):(decide ((32:Int)≤((c.toNat:Nat):Int)) && decide (((c.toNat:Nat):Int)≤126))=(decide (32≤c.toNat) && decide (c.toNat≤126)):=by
 congr 1
 ·exact dLe 32 c
 ·exact dGe 126 c
theorem plainC (s:List UInt8) (H:List AO):ACall Tryz.prog 126 [.p (.s s)] H (pureQ (.p (.b (plainD s))) H):=by
 unfold plainD
 refine call126 (by simp) ?_
 simp only [go_sem,reduceIte,↓reduceIte,sevalprocAttr,Z0,Z1,bytesOf,mc126,mr126]
 refine ⟨Nat,[0,3],fun x st=>(x≤s.length∧(s.take x).all plainB=true)∧st=⟨[(0,.p (.s s)),(3,.p (.i .i64 x))],[],H⟩,fun x=>s.length - x,⟨0,?_⟩,?_⟩
 ·simp only [go_sem,reduceIte,↓reduceIte,sevalprocAttr,Z0,Z1,bytesOf,List.take_zero]
  exact ⟨Nat.zero_le _,rfl⟩
 ·rintro x _ ⟨⟨hx,hn⟩,rfl⟩
  by_cases hlt:x<s.length
  ·have d1:decide ((x:Int)<(s.length:Int))=true:=by simp; omega
   have hg:s[x]?=some s[x]:=List.getElem?_eq_getElem hlt
   have e10:decide (((s[x].toNat:Nat):Int)=(10:Int))=decide (s[x].toNat=10):=dEq 10 s[x]
   simp only [go_sem,reduceIte,↓reduceIte,sevalprocAttr,Z0,Z1,bytesOf,d1,hg,wrB]
   intro hl2
   rw [maxLe] at hl2
   have ex:=wrN x (by omega)
   refine acall_pure (withinC _ _ _ H) ?_
   rw [eIn s[x]]
   have ePl:plainB s[x]=((decide (32≤s[x].toNat) && decide (s[x].toNat≤126)) || decide (s[x].toNat=10)):=rfl
   cases hb:decide (32≤s[x].toNat) && decide (s[x].toNat≤126)
   ·rw [hb,Bool.false_or] at ePl
    cases h10:decide (s[x].toNat=10)
    ·rw [h10] at ePl
     simp only [go_sem,reduceIte,↓reduceIte,sevalprocAttr,Z0,Z1,bytesOf,hb,hg,e10,h10]
     rw [all_not (p:=plainB) hlt ePl]
     exact ⟨rfl,rfl⟩
    ·rw [h10] at ePl
     simp only [go_sem,reduceIte,↓reduceIte,sevalprocAttr,Z0,Z1,bytesOf,hb,hg,e10,h10,ex]
     exact ⟨x+1,⟨⟨by omega,by rw [all_take hlt,hn,ePl]; rfl⟩,rfl⟩,by omega⟩
   ·rw [hb,Bool.true_or] at ePl
    simp only [go_sem,reduceIte,↓reduceIte,sevalprocAttr,Z0,Z1,bytesOf,hb,ex]
    exact ⟨x+1,⟨⟨by omega,by rw [all_take hlt,hn,ePl]; rfl⟩,rfl⟩,by omega⟩
  ·have:x=s.length:=by omega
   subst this
   rw [List.take_length] at hn
   have d1:decide ((s.length:Int)<(s.length:Int))=false:=by simp
   simp only [go_sem,reduceIte,↓reduceIte,sevalprocAttr,Z0,Z1,bytesOf,d1]
   intro _
   rw [hn]
   exact ⟨rfl,rfl⟩
theorem charsS (s:List UInt8) (H:List AO):ACall Tryz.prog 123 [.p (.s s)] H (pureQ (.p (.b (plainD s))) H):=by
 unfold plainD
 refine call123 (by simp) ?_
 simp only [go_sem,reduceIte,↓reduceIte,sevalprocAttr,Z0,Z1,bytesOf,mc123,mr123]
 refine ⟨Nat,[0,3],fun x st=>(x≤s.length∧(s.take x).all plainB=true)∧st=⟨[(0,.p (.s s)),(3,.p (.i .i64 x))],[],H⟩,fun x=>s.length - x,⟨0,?_⟩,?_⟩
 ·simp only [go_sem,reduceIte,↓reduceIte,sevalprocAttr,Z0,Z1,bytesOf,List.take_zero]
  exact ⟨Nat.zero_le _,rfl⟩
 ·rintro x _ ⟨⟨hx,hn⟩,rfl⟩
  by_cases hlt:x<s.length
  ·have d1:decide ((x:Int)<(s.length:Int))=true:=by simp; omega
   have hg:s[x]?=some s[x]:=List.getElem?_eq_getElem hlt
   have e10:decide (((s[x].toNat:Nat):Int)=(10:Int))=decide (s[x].toNat=10):=dEq 10 s[x]
   simp only [go_sem,reduceIte,↓reduceIte,sevalprocAttr,Z0,Z1,bytesOf,d1,hg,wrB]
   intro hl2
   rw [maxLe] at hl2
   have ex:=wrN x (by omega)
   have ePl:plainB s[x]=((decide (32≤s[x].toNat) && decide (s[x].toNat≤126)) || decide (s[x].toNat=10)):=rfl
   cases h10:decide (s[x].toNat=10)
   ·simp only [go_sem,reduceIte,↓reduceIte,sevalprocAttr,Z0,Z1,bytesOf,e10,h10,hg,wrB]
    refine acall_pure (inC _ _ _ H) ?_
    rw [eIn s[x]]
    cases hb:decide (32≤s[x].toNat) && decide (s[x].toNat≤126)
    ·rw [hb,h10] at ePl
     simp only [go_sem,reduceIte,↓reduceIte,sevalprocAttr,Z0,Z1,bytesOf,hb]
     rw [all_not (p:=plainB) hlt ePl]
     exact ⟨rfl,rfl⟩
    ·rw [hb,Bool.true_or] at ePl
     simp only [go_sem,reduceIte,↓reduceIte,sevalprocAttr,Z0,Z1,bytesOf,hb,ex]
     exact ⟨x+1,⟨⟨by omega,by rw [all_take hlt,hn,ePl]; rfl⟩,rfl⟩,by omega⟩
   ·rw [h10,Bool.or_true] at ePl
    simp only [go_sem,reduceIte,↓reduceIte,sevalprocAttr,Z0,Z1,bytesOf,e10,h10,ex]
    exact ⟨x+1,⟨⟨by omega,by rw [all_take hlt,hn,ePl]; rfl⟩,rfl⟩,by omega⟩
  ·have:x=s.length:=by omega
   subst this
   rw [List.take_length] at hn
   have d1:decide ((s.length:Int)<(s.length:Int))=false:=by simp
   simp only [go_sem,reduceIte,↓reduceIte,sevalprocAttr,Z0,Z1,bytesOf,d1]
   intro _
   rw [hn]
   exact ⟨rfl,rfl⟩
theorem opC (s:List UInt8) (H:List AO):ACall Tryz.prog 128 [.p (.s s)] H (pureQ (.p (.b (decide (s∈opL)))) H):=by
 refine acall_drop1 ?_ (tf_p _)
 refine call128 (by simp) ?_
 simp only [go_sem,reduceIte,↓reduceIte,sevalprocAttr,Z0,Z1,bytesOf,mc128,mr128]
 refine acall_pure (containsG (l:=opL) (ver:=0) (j:=H.length) (by rw [get_off0]; rfl)) ?_
 simp only [go_sem,reduceIte,↓reduceIte,sevalprocAttr,Z0,Z1,bytesOf]
 exact ⟨_,rfl⟩
theorem opS (s:List UInt8) (H:List AO):ACall Tryz.prog 124 [.p (.s s)] H (pureQ (.p (.b (decide (s∈opL)))) H):=by
 refine call124 (by simp) ?_
 by_cases h0:s=[43]
 ·subst h0
  have e0:decide (([43]:List UInt8)=[43])=true:=by decide
  have e1:decide (([43]:List UInt8)=[45])=false:=by decide
  have e2:decide (([43]:List UInt8)=[42])=false:=by decide
  have e3:decide (([43]:List UInt8)=[94])=false:=by decide
  have e4:decide (([43]:List UInt8)=[61])=false:=by decide
  have e5:decide (([43]:List UInt8)=[60])=false:=by decide
  have e6:decide (([43]:List UInt8)=[58,61])=false:=by decide
  have er:decide (([43]:List UInt8)∈opL)=true:=by decide
  rw [er]
  simp only [go_sem,reduceIte,↓reduceIte,sevalprocAttr,Z0,Z1,bytesOf,mc124,mr124,e0,e1,e2,e3,e4,e5,e6]
  exact ⟨rfl,rfl⟩
 by_cases h1:s=[45]
 ·subst h1
  have e0:decide (([45]:List UInt8)=[43])=false:=by decide
  have e1:decide (([45]:List UInt8)=[45])=true:=by decide
  have e2:decide (([45]:List UInt8)=[42])=false:=by decide
  have e3:decide (([45]:List UInt8)=[94])=false:=by decide
  have e4:decide (([45]:List UInt8)=[61])=false:=by decide
  have e5:decide (([45]:List UInt8)=[60])=false:=by decide
  have e6:decide (([45]:List UInt8)=[58,61])=false:=by decide
  have er:decide (([45]:List UInt8)∈opL)=true:=by decide
  rw [er]
  simp only [go_sem,reduceIte,↓reduceIte,sevalprocAttr,Z0,Z1,bytesOf,mc124,mr124,e0,e1,e2,e3,e4,e5,e6]
  exact ⟨rfl,rfl⟩
 by_cases h2:s=[42]
 ·subst h2
  have e0:decide (([42]:List UInt8)=[43])=false:=by decide
  have e1:decide (([42]:List UInt8)=[45])=false:=by decide
  have e2:decide (([42]:List UInt8)=[42])=true:=by decide
  have e3:decide (([42]:List UInt8)=[94])=false:=by decide
  have e4:decide (([42]:List UInt8)=[61])=false:=by decide
  have e5:decide (([42]:List UInt8)=[60])=false:=by decide
  have e6:decide (([42]:List UInt8)=[58,61])=false:=by decide
  have er:decide (([42]:List UInt8)∈opL)=true:=by decide
  rw [er]
  simp only [go_sem,reduceIte,↓reduceIte,sevalprocAttr,Z0,Z1,bytesOf,mc124,mr124,e0,e1,e2,e3,e4,e5,e6]
  exact ⟨rfl,rfl⟩
 by_cases h3:s=[94]
 ·subst h3
  have e0:decide (([94]:List UInt8)=[43])=false:=by decide
  have e1:decide (([94]:List UInt8)=[45])=false:=by decide
  have e2:decide (([94]:List UInt8)=[42])=false:=by decide
  have e3:decide (([94]:List UInt8)=[94])=true:=by decide
  have e4:decide (([94]:List UInt8)=[61])=false:=by decide
  have e5:decide (([94]:List UInt8)=[60])=false:=by decide
  have e6:decide (([94]:List UInt8)=[58,61])=false:=by decide
  have er:decide (([94]:List UInt8)∈opL)=true:=by decide
  rw [er]
  simp only [go_sem,reduceIte,↓reduceIte,sevalprocAttr,Z0,Z1,bytesOf,mc124,mr124,e0,e1,e2,e3,e4,e5,e6]
  exact ⟨rfl,rfl⟩
 by_cases h4:s=[61]
 ·subst h4
  have e0:decide (([61]:List UInt8)=[43])=false:=by decide
  have e1:decide (([61]:List UInt8)=[45])=false:=by decide
  have e2:decide (([61]:List UInt8)=[42])=false:=by decide
  have e3:decide (([61]:List UInt8)=[94])=false:=by decide
  have e4:decide (([61]:List UInt8)=[61])=true:=by decide
  have e5:decide (([61]:List UInt8)=[60])=false:=by decide
  have e6:decide (([61]:List UInt8)=[58,61])=false:=by decide
  have er:decide (([61]:List UInt8)∈opL)=true:=by decide
  rw [er]
  simp only [go_sem,reduceIte,↓reduceIte,sevalprocAttr,Z0,Z1,bytesOf,mc124,mr124,e0,e1,e2,e3,e4,e5,e6]
  exact ⟨rfl,rfl⟩
 by_cases h5:s=[60]
 ·subst h5
  have e0:decide (([60]:List UInt8)=[43])=false:=by decide
  have e1:decide (([60]:List UInt8)=[45])=false:=by decide
  have e2:decide (([60]:List UInt8)=[42])=false:=by decide
  have e3:decide (([60]:List UInt8)=[94])=false:=by decide
  have e4:decide (([60]:List UInt8)=[61])=false:=by decide
  have e5:decide (([60]:List UInt8)=[60])=true:=by decide
  have e6:decide (([60]:List UInt8)=[58,61])=false:=by decide
  have er:decide (([60]:List UInt8)∈opL)=true:=by decide
  rw [er]
  simp only [go_sem,reduceIte,↓reduceIte,sevalprocAttr,Z0,Z1,bytesOf,mc124,mr124,e0,e1,e2,e3,e4,e5,e6]
  exact ⟨rfl,rfl⟩
 by_cases h6:s=[58,61]
 ·subst h6
  have e0:decide (([58,61]:List UInt8)=[43])=false:=by decide
  have e1:decide (([58,61]:List UInt8)=[45])=false:=by decide
  have e2:decide (([58,61]:List UInt8)=[42])=false:=by decide
  have e3:decide (([58,61]:List UInt8)=[94])=false:=by decide
  have e4:decide (([58,61]:List UInt8)=[61])=false:=by decide
  have e5:decide (([58,61]:List UInt8)=[60])=false:=by decide
  have e6:decide (([58,61]:List UInt8)=[58,61])=true:=by decide
  have er:decide (([58,61]:List UInt8)∈opL)=true:=by decide
  rw [er]
  simp only [go_sem,reduceIte,↓reduceIte,sevalprocAttr,Z0,Z1,bytesOf,mc124,mr124,e0,e1,e2,e3,e4,e5,e6]
  exact ⟨rfl,rfl⟩
 have e0:decide (s=[43])=false:=by simp [h0]
 have e1:decide (s=[45])=false:=by simp [h1]
 have e2:decide (s=[42])=false:=by simp [h2]
 have e3:decide (s=[94])=false:=by simp [h3]
 have e4:decide (s=[61])=false:=by simp [h4]
 have e5:decide (s=[60])=false:=by simp [h5]
 have e6:decide (s=[58,61])=false:=by simp [h6]
 have er:decide (s∈opL)=false:=by simp [opL,h0,h1,h2,h3,h4,h5,h6]
 rw [er]
 simp only [go_sem,reduceIte,↓reduceIte,sevalprocAttr,Z0,Z1,bytesOf,mc124,mr124,e0,e1,e2,e3,e4,e5,e6]
 exact ⟨rfl,rfl⟩
theorem primS (s:List UInt8) (H:List AO):ACall Tryz.prog 125 [.p (.s s)] H (pureQ (.p (.b (decide (arity s=1)))) H):=by
 refine call125 (by simp) ?_
 by_cases h0:s=[112,114,105,110,116]
 ·subst h0
  have e0:decide (([112,114,105,110,116]:List UInt8)=[112,114,105,110,116])=true:=by decide
  have e1:decide (([112,114,105,110,116]:List UInt8)=[101,120,105,116])=false:=by decide
  have e2:decide (([112,114,105,110,116]:List UInt8)=[115,105,122,101])=false:=by decide
  have e3:decide (([112,114,105,110,116]:List UInt8)=[114,101,102])=false:=by decide
  have e4:decide (([112,114,105,110,116]:List UInt8)=[33])=false:=by decide
  have er:decide (arity ([112,114,105,110,116]:List UInt8)=1)=true:=by decide
  rw [er]
  simp only [go_sem,reduceIte,↓reduceIte,sevalprocAttr,Z0,Z1,bytesOf,mc125,mr125,e0,e1,e2,e3,e4]
  exact ⟨rfl,rfl⟩
 by_cases h1:s=[101,120,105,116]
 ·subst h1
  have e0:decide (([101,120,105,116]:List UInt8)=[112,114,105,110,116])=false:=by decide
  have e1:decide (([101,120,105,116]:List UInt8)=[101,120,105,116])=true:=by decide
  have e2:decide (([101,120,105,116]:List UInt8)=[115,105,122,101])=false:=by decide
  have e3:decide (([101,120,105,116]:List UInt8)=[114,101,102])=false:=by decide
  have e4:decide (([101,120,105,116]:List UInt8)=[33])=false:=by decide
  have er:decide (arity ([101,120,105,116]:List UInt8)=1)=true:=by decide
  rw [er]
  simp only [go_sem,reduceIte,↓reduceIte,sevalprocAttr,Z0,Z1,bytesOf,mc125,mr125,e0,e1,e2,e3,e4]
  exact ⟨rfl,rfl⟩
 by_cases h2:s=[115,105,122,101]
 ·subst h2
  have e0:decide (([115,105,122,101]:List UInt8)=[112,114,105,110,116])=false:=by decide
  have e1:decide (([115,105,122,101]:List UInt8)=[101,120,105,116])=false:=by decide
  have e2:decide (([115,105,122,101]:List UInt8)=[115,105,122,101])=true:=by decide
  have e3:decide (([115,105,122,101]:List UInt8)=[114,101,102])=false:=by decide
  have e4:decide (([115,105,122,101]:List UInt8)=[33])=false:=by decide
  have er:decide (arity ([115,105,122,101]:List UInt8)=1)=true:=by decide
  rw [er]
  simp only [go_sem,reduceIte,↓reduceIte,sevalprocAttr,Z0,Z1,bytesOf,mc125,mr125,e0,e1,e2,e3,e4]
  exact ⟨rfl,rfl⟩
 by_cases h3:s=[114,101,102]
 ·subst h3
  have e0:decide (([114,101,102]:List UInt8)=[112,114,105,110,116])=false:=by decide
  have e1:decide (([114,101,102]:List UInt8)=[101,120,105,116])=false:=by decide
  have e2:decide (([114,101,102]:List UInt8)=[115,105,122,101])=false:=by decide
  have e3:decide (([114,101,102]:List UInt8)=[114,101,102])=true:=by decide
  have e4:decide (([114,101,102]:List UInt8)=[33])=false:=by decide
  have er:decide (arity ([114,101,102]:List UInt8)=1)=true:=by decide
  rw [er]
  simp only [go_sem,reduceIte,↓reduceIte,sevalprocAttr,Z0,Z1,bytesOf,mc125,mr125,e0,e1,e2,e3,e4]
  exact ⟨rfl,rfl⟩
 by_cases h4:s=[33]
 ·subst h4
  have e0:decide (([33]:List UInt8)=[112,114,105,110,116])=false:=by decide
  have e1:decide (([33]:List UInt8)=[101,120,105,116])=false:=by decide
  have e2:decide (([33]:List UInt8)=[115,105,122,101])=false:=by decide
  have e3:decide (([33]:List UInt8)=[114,101,102])=false:=by decide
  have e4:decide (([33]:List UInt8)=[33])=true:=by decide
  have er:decide (arity ([33]:List UInt8)=1)=true:=by decide
  rw [er]
  simp only [go_sem,reduceIte,↓reduceIte,sevalprocAttr,Z0,Z1,bytesOf,mc125,mr125,e0,e1,e2,e3,e4]
  exact ⟨rfl,rfl⟩
 have e0:decide (s=[112,114,105,110,116])=false:=by simp [h0]
 have e1:decide (s=[101,120,105,116])=false:=by simp [h1]
 have e2:decide (s=[115,105,122,101])=false:=by simp [h2]
 have e3:decide (s=[114,101,102])=false:=by simp [h3]
 have e4:decide (s=[33])=false:=by simp [h4]
 have er:decide (arity s=1)=false:=by
  unfold arity
  split
  ·decide
  ·simp [h0,h1,h2,h3,h4]
 rw [er]
 simp only [go_sem,reduceIte,↓reduceIte,sevalprocAttr,Z0,Z1,bytesOf,mc125,mr125,e0,e1,e2,e3,e4]
 exact ⟨rfl,rfl⟩
theorem arityC (s:List UInt8) (H:List AO):ACall Tryz.prog 129 [.p (.s s)] H (pureQ (.p (.i .i64 (arity s))) H):=by
 refine call129 (by simp) ?_
 by_cases h0:s=[114,101,97,100]
 ·subst h0
  have e0:decide (([114,101,97,100]:List UInt8)=[114,101,97,100])=true:=by decide
  have e1:decide (([114,101,97,100]:List UInt8)=[112,114,105,110,116])=false:=by decide
  have e2:decide (([114,101,97,100]:List UInt8)=[101,120,105,116])=false:=by decide
  have e3:decide (([114,101,97,100]:List UInt8)=[115,105,122,101])=false:=by decide
  have e4:decide (([114,101,97,100]:List UInt8)=[114,101,102])=false:=by decide
  have e5:decide (([114,101,97,100]:List UInt8)=[33])=false:=by decide
  have er:arity ([114,101,97,100]:List UInt8)=0:=by decide
  rw [er]
  simp only [go_sem,reduceIte,↓reduceIte,sevalprocAttr,Z0,Z1,bytesOf,mc129,mr129,e0,e1,e2,e3,e4,e5]
  exact ⟨rfl,rfl⟩
 by_cases h1:s=[112,114,105,110,116]
 ·subst h1
  have e0:decide (([112,114,105,110,116]:List UInt8)=[114,101,97,100])=false:=by decide
  have e1:decide (([112,114,105,110,116]:List UInt8)=[112,114,105,110,116])=true:=by decide
  have e2:decide (([112,114,105,110,116]:List UInt8)=[101,120,105,116])=false:=by decide
  have e3:decide (([112,114,105,110,116]:List UInt8)=[115,105,122,101])=false:=by decide
  have e4:decide (([112,114,105,110,116]:List UInt8)=[114,101,102])=false:=by decide
  have e5:decide (([112,114,105,110,116]:List UInt8)=[33])=false:=by decide
  have er:arity ([112,114,105,110,116]:List UInt8)=1:=by decide
  rw [er]
  simp only [go_sem,reduceIte,↓reduceIte,sevalprocAttr,Z0,Z1,bytesOf,mc129,mr129,e0,e1,e2,e3,e4,e5]
  exact ⟨rfl,rfl⟩
 by_cases h2:s=[101,120,105,116]
 ·subst h2
  have e0:decide (([101,120,105,116]:List UInt8)=[114,101,97,100])=false:=by decide
  have e1:decide (([101,120,105,116]:List UInt8)=[112,114,105,110,116])=false:=by decide
  have e2:decide (([101,120,105,116]:List UInt8)=[101,120,105,116])=true:=by decide
  have e3:decide (([101,120,105,116]:List UInt8)=[115,105,122,101])=false:=by decide
  have e4:decide (([101,120,105,116]:List UInt8)=[114,101,102])=false:=by decide
  have e5:decide (([101,120,105,116]:List UInt8)=[33])=false:=by decide
  have er:arity ([101,120,105,116]:List UInt8)=1:=by decide
  rw [er]
  simp only [go_sem,reduceIte,↓reduceIte,sevalprocAttr,Z0,Z1,bytesOf,mc129,mr129,e0,e1,e2,e3,e4,e5]
  exact ⟨rfl,rfl⟩
 by_cases h3:s=[115,105,122,101]
 ·subst h3
  have e0:decide (([115,105,122,101]:List UInt8)=[114,101,97,100])=false:=by decide
  have e1:decide (([115,105,122,101]:List UInt8)=[112,114,105,110,116])=false:=by decide
  have e2:decide (([115,105,122,101]:List UInt8)=[101,120,105,116])=false:=by decide
  have e3:decide (([115,105,122,101]:List UInt8)=[115,105,122,101])=true:=by decide
  have e4:decide (([115,105,122,101]:List UInt8)=[114,101,102])=false:=by decide
  have e5:decide (([115,105,122,101]:List UInt8)=[33])=false:=by decide
  have er:arity ([115,105,122,101]:List UInt8)=1:=by decide
  rw [er]
  simp only [go_sem,reduceIte,↓reduceIte,sevalprocAttr,Z0,Z1,bytesOf,mc129,mr129,e0,e1,e2,e3,e4,e5]
  exact ⟨rfl,rfl⟩
 by_cases h4:s=[114,101,102]
 ·subst h4
  have e0:decide (([114,101,102]:List UInt8)=[114,101,97,100])=false:=by decide
  have e1:decide (([114,101,102]:List UInt8)=[112,114,105,110,116])=false:=by decide
  have e2:decide (([114,101,102]:List UInt8)=[101,120,105,116])=false:=by decide
  have e3:decide (([114,101,102]:List UInt8)=[115,105,122,101])=false:=by decide
  have e4:decide (([114,101,102]:List UInt8)=[114,101,102])=true:=by decide
  have e5:decide (([114,101,102]:List UInt8)=[33])=false:=by decide
  have er:arity ([114,101,102]:List UInt8)=1:=by decide
  rw [er]
  simp only [go_sem,reduceIte,↓reduceIte,sevalprocAttr,Z0,Z1,bytesOf,mc129,mr129,e0,e1,e2,e3,e4,e5]
  exact ⟨rfl,rfl⟩
 by_cases h5:s=[33]
 ·subst h5
  have e0:decide (([33]:List UInt8)=[114,101,97,100])=false:=by decide
  have e1:decide (([33]:List UInt8)=[112,114,105,110,116])=false:=by decide
  have e2:decide (([33]:List UInt8)=[101,120,105,116])=false:=by decide
  have e3:decide (([33]:List UInt8)=[115,105,122,101])=false:=by decide
  have e4:decide (([33]:List UInt8)=[114,101,102])=false:=by decide
  have e5:decide (([33]:List UInt8)=[33])=true:=by decide
  have er:arity ([33]:List UInt8)=1:=by decide
  rw [er]
  simp only [go_sem,reduceIte,↓reduceIte,sevalprocAttr,Z0,Z1,bytesOf,mc129,mr129,e0,e1,e2,e3,e4,e5]
  exact ⟨rfl,rfl⟩
 have e0:decide (s=[114,101,97,100])=false:=by simp [h0]
 have e1:decide (s=[112,114,105,110,116])=false:=by simp [h1]
 have e2:decide (s=[101,120,105,116])=false:=by simp [h2]
 have e3:decide (s=[115,105,122,101])=false:=by simp [h3]
 have e4:decide (s=[114,101,102])=false:=by simp [h4]
 have e5:decide (s=[33])=false:=by simp [h5]
 have er:arity s = -1:=by simp [arity,h0,h1,h2,h3,h4,h5]
 rw [er]
 simp only [go_sem,reduceIte,↓reduceIte,sevalprocAttr,Z0,Z1,bytesOf,mc129,mr129,e0,e1,e2,e3,e4,e5]
 exact ⟨rfl,rfl⟩
end Go.Proofs.YtnelfbcgplooiaaGreat.Pg
/- A function over a slice: the library's IndexFunc, ContainsFunc at the types that are met. -/
set_option linter.all false
namespace Go.Proofs.YtnelfbcgplooiaaGreat.Pg
open Go.AM Mc
def idxF {α:Type} (g:α→Bool):List α→Option Nat
 | []=>.none
 | a :: l=>if g a then some 0 else (idxF g l).map (·+1)
def idxFI {α:Type} (g:α→Bool) (l:List α):Int:=match idxF g l with | .none=>-1 | some k=>k
theorem idxF_any {α : Type} (g : α → Bool) (l : List α) : (idxF g l).isSome = l.any g := by
  induction l with
  | nil => rfl
  | cons a l ih =>
    simp only [idxF, List.any_cons]
    cases h : g a
    · simp [ih]
    · simp
theorem idxFI_any {α:Type} (g:α→Bool) (l:List α):decide ((0:Int)≤idxFI g l)=l.any g:=by
 rw [← idxF_any]
 unfold idxFI
 cases idxF g l with
 | none=>rfl
 | some k=>simp
theorem InfoC.cells_len (t:InfoC):t.cells.length=6:=by
 obtain ⟨n,h,⟨k,m,nm,ks⟩⟩:=t; rfl
theorem indexF_Data {H : List AO} {l : List DataD} {g : DataD → Bool} {f : Nat} {caps : List AV} (hf : ∀ a ∈ l, ACall Tryz.prog f ((av (DataD.cells a)) :: caps) H (pureQ (.p (.b (g a))) H)) :
    ACall Tryz.prog 70 [.p (.l (l.map DataD.cells)), .clo f caps] H (pureQ (.p (.i .i64 (idxFI g l))) H) := by
  refine call70 (by simp) ?_
  simp only [go_sem, reduceIte, ↓reduceIte, sevalprocAttr, Z0, Z1, bytesOf, mc70, mr70, List.length_map, namesC_len]
  intro hl
  rw [maxLe] at hl
  refine ⟨Nat, [0, 1, 7, 8], fun x st => (x ≤ l.length ∧ idxFI g l = match idxF g (l.drop x) with | .none => -1 | some k => ((x + k : Nat) : Int)) ∧ st = ⟨[(0, .p (.l (l.map DataD.cells))), (1, .clo f caps), (7, .p (.i .i64 l.length)), (8, .p (.i .i64 x))], [], H⟩, fun x => l.length - x, ⟨0, ?_⟩, ?_⟩
  · simp only [go_sem, reduceIte, ↓reduceIte, sevalprocAttr, Z0, Z1, bytesOf, List.drop_zero]
    refine ⟨Nat.zero_le _, ?_⟩
    unfold idxFI
    cases idxF g l <;> simp
  · rintro x _ ⟨⟨hx, hv⟩, rfl⟩
    by_cases hlt : x < l.length
    · have d1 : decide ((x : Int) < (l.length : Int)) = true := by simp; omega
      have ex := wrN x (by omega)
      have hlt' : ((x : Int) < (l.length : Int)) := by omega
      have hg : (l.map DataD.cells)[x]? = some (DataD.cells l[x]) := by simp [hlt]
      have et : takeN 4 (List.map AV.p (DataD.cells l[x])) = some (List.map AV.p (DataD.cells l[x])) := takeN_all (by rw [List.length_map, DataD.cells_len])
      rw [List.drop_eq_getElem_cons hlt, idxF] at hv
      simp only [go_sem, reduceIte, ↓reduceIte, sevalprocAttr, Z0, Z1, bytesOf, d1, hg, hlt', List.length_map, et, DataD.cells_len]
      have hc := hf l[x] (List.getElem_mem hlt)
      refine acall_pure (by simpa using hc) ?_
      cases he : g l[x]
      · rw [he] at hv
        simp only [go_sem, reduceIte, ↓reduceIte, sevalprocAttr, Z0, Z1, bytesOf, he, ex]
        refine ⟨x + 1, ⟨⟨by omega, ?_⟩, rfl⟩, by omega⟩
        rw [hv]
        cases idxF g (l.drop (x + 1)) with
        | none => rfl
        | some k =>
          show ((x + (k + 1) : Nat) : Int) = ((x + 1 + k : Nat) : Int)
          rw [show x + (k + 1) = x + 1 + k by omega]
      · rw [he] at hv
        simp only [go_sem, reduceIte, ↓reduceIte, sevalprocAttr, Z0, Z1, bytesOf, he]
        rw [hv]
        exact ⟨by simp, rfl⟩
    · have : x = l.length := by omega
      subst this
      have d1 : decide ((l.length : Int) < (l.length : Int)) = false := by simp
      rw [List.drop_length] at hv
      simp only [go_sem, reduceIte, ↓reduceIte, sevalprocAttr, Z0, Z1, bytesOf, d1]
      rw [hv]
      exact ⟨rfl, rfl⟩
theorem indexF_Pat {H : List AO} {l : List PatD} {g : PatD → Bool} {f : Nat} {caps : List AV} (hf : ∀ a ∈ l, ACall Tryz.prog f ((av (PatD.cells a)) :: caps) H (pureQ (.p (.b (g a))) H)) :
    ACall Tryz.prog 146 [.p (.l (l.map PatD.cells)), .clo f caps] H (pureQ (.p (.i .i64 (idxFI g l))) H) := by
  refine call146 (by simp) ?_
  simp only [go_sem, reduceIte, ↓reduceIte, sevalprocAttr, Z0, Z1, bytesOf, mc146, mr146, List.length_map, namesC_len]
  intro hl
  rw [maxLe] at hl
  refine ⟨Nat, [0, 1, 7, 8], fun x st => (x ≤ l.length ∧ idxFI g l = match idxF g (l.drop x) with | .none => -1 | some k => ((x + k : Nat) : Int)) ∧ st = ⟨[(0, .p (.l (l.map PatD.cells))), (1, .clo f caps), (7, .p (.i .i64 l.length)), (8, .p (.i .i64 x))], [], H⟩, fun x => l.length - x, ⟨0, ?_⟩, ?_⟩
  · simp only [go_sem, reduceIte, ↓reduceIte, sevalprocAttr, Z0, Z1, bytesOf, List.drop_zero]
    refine ⟨Nat.zero_le _, ?_⟩
    unfold idxFI
    cases idxF g l <;> simp
  · rintro x _ ⟨⟨hx, hv⟩, rfl⟩
    by_cases hlt : x < l.length
    · have d1 : decide ((x : Int) < (l.length : Int)) = true := by simp; omega
      have ex := wrN x (by omega)
      have hlt' : ((x : Int) < (l.length : Int)) := by omega
      have hg : (l.map PatD.cells)[x]? = some (PatD.cells l[x]) := by simp [hlt]
      have et : takeN 5 (List.map AV.p (PatD.cells l[x])) = some (List.map AV.p (PatD.cells l[x])) := takeN_all (by rw [List.length_map, PatD.cells_len])
      rw [List.drop_eq_getElem_cons hlt, idxF] at hv
      simp only [go_sem, reduceIte, ↓reduceIte, sevalprocAttr, Z0, Z1, bytesOf, d1, hg, hlt', List.length_map, et, PatD.cells_len]
      have hc := hf l[x] (List.getElem_mem hlt)
      refine acall_pure (by simpa using hc) ?_
      cases he : g l[x]
      · rw [he] at hv
        simp only [go_sem, reduceIte, ↓reduceIte, sevalprocAttr, Z0, Z1, bytesOf, he, ex]
        refine ⟨x + 1, ⟨⟨by omega, ?_⟩, rfl⟩, by omega⟩
        rw [hv]
        cases idxF g (l.drop (x + 1)) with
        | none => rfl
        | some k =>
          show ((x + (k + 1) : Nat) : Int) = ((x + 1 + k : Nat) : Int)
          rw [show x + (k + 1) = x + 1 + k by omega]
      · rw [he] at hv
        simp only [go_sem, reduceIte, ↓reduceIte, sevalprocAttr, Z0, Z1, bytesOf, he]
        rw [hv]
        exact ⟨by simp, rfl⟩
    · have : x = l.length := by omega
      subst this
      have d1 : decide ((l.length : Int) < (l.length : Int)) = false := by simp
      rw [List.drop_length] at hv
      simp only [go_sem, reduceIte, ↓reduceIte, sevalprocAttr, Z0, Z1, bytesOf, d1]
      rw [hv]
      exact ⟨rfl, rfl⟩
theorem indexF_TypeExp {H : List AO} {l : List TyE} {g : TyE → Bool} {f : Nat} {caps : List AV} (hf : ∀ a ∈ l, ACall Tryz.prog f ((av (TyE.cells a)) :: caps) H (pureQ (.p (.b (g a))) H)) :
    ACall Tryz.prog 147 [.p (.l (l.map TyE.cells)), .clo f caps] H (pureQ (.p (.i .i64 (idxFI g l))) H) := by
  refine call147 (by simp) ?_
  simp only [go_sem, reduceIte, ↓reduceIte, sevalprocAttr, Z0, Z1, bytesOf, mc147, mr147, List.length_map, namesC_len]
  intro hl
  rw [maxLe] at hl
  refine ⟨Nat, [0, 1, 7, 8], fun x st => (x ≤ l.length ∧ idxFI g l = match idxF g (l.drop x) with | .none => -1 | some k => ((x + k : Nat) : Int)) ∧ st = ⟨[(0, .p (.l (l.map TyE.cells))), (1, .clo f caps), (7, .p (.i .i64 l.length)), (8, .p (.i .i64 x))], [], H⟩, fun x => l.length - x, ⟨0, ?_⟩, ?_⟩
  · simp only [go_sem, reduceIte, ↓reduceIte, sevalprocAttr, Z0, Z1, bytesOf, List.drop_zero]
    refine ⟨Nat.zero_le _, ?_⟩
    unfold idxFI
    cases idxF g l <;> simp
  · rintro x _ ⟨⟨hx, hv⟩, rfl⟩
    by_cases hlt : x < l.length
    · have d1 : decide ((x : Int) < (l.length : Int)) = true := by simp; omega
      have ex := wrN x (by omega)
      have hlt' : ((x : Int) < (l.length : Int)) := by omega
      have hg : (l.map TyE.cells)[x]? = some (TyE.cells l[x]) := by simp [hlt]
      have et : takeN 4 (List.map AV.p (TyE.cells l[x])) = some (List.map AV.p (TyE.cells l[x])) := takeN_all (by rw [List.length_map, TyE.cells_len])
      rw [List.drop_eq_getElem_cons hlt, idxF] at hv
      simp only [go_sem, reduceIte, ↓reduceIte, sevalprocAttr, Z0, Z1, bytesOf, d1, hg, hlt', List.length_map, et, TyE.cells_len]
      have hc := hf l[x] (List.getElem_mem hlt)
      refine acall_pure (by simpa using hc) ?_
      cases he : g l[x]
      · rw [he] at hv
        simp only [go_sem, reduceIte, ↓reduceIte, sevalprocAttr, Z0, Z1, bytesOf, he, ex]
        refine ⟨x + 1, ⟨⟨by omega, ?_⟩, rfl⟩, by omega⟩
        rw [hv]
        cases idxF g (l.drop (x + 1)) with
        | none => rfl
        | some k =>
          show ((x + (k + 1) : Nat) : Int) = ((x + 1 + k : Nat) : Int)
          rw [show x + (k + 1) = x + 1 + k by omega]
      · rw [he] at hv
        simp only [go_sem, reduceIte, ↓reduceIte, sevalprocAttr, Z0, Z1, bytesOf, he]
        rw [hv]
        exact ⟨by simp, rfl⟩
    · have : x = l.length := by omega
      subst this
      have d1 : decide ((l.length : Int) < (l.length : Int)) = false := by simp
      rw [List.drop_length] at hv
      simp only [go_sem, reduceIte, ↓reduceIte, sevalprocAttr, Z0, Z1, bytesOf, d1]
      rw [hv]
      exact ⟨rfl, rfl⟩
theorem indexF_String {H : List AO} {l : List (List UInt8)} {g : List UInt8 → Bool} {f : Nat} {caps : List AV} (hf : ∀ a ∈ l, ACall Tryz.prog f ((.p (.s a)) :: caps) H (pureQ (.p (.b (g a))) H)) :
    ACall Tryz.prog 136 [.p (.l (namesC l)), .clo f caps] H (pureQ (.p (.i .i64 (idxFI g l))) H) := by
  refine call136 (by simp) ?_
  simp only [go_sem, reduceIte, ↓reduceIte, sevalprocAttr, Z0, Z1, bytesOf, mc136, mr136, List.length_map, namesC_len]
  intro hl
  rw [maxLe] at hl
  refine ⟨Nat, [0, 1, 7, 8], fun x st => (x ≤ l.length ∧ idxFI g l = match idxF g (l.drop x) with | .none => -1 | some k => ((x + k : Nat) : Int)) ∧ st = ⟨[(0, .p (.l (namesC l))), (1, .clo f caps), (7, .p (.i .i64 l.length)), (8, .p (.i .i64 x))], [], H⟩, fun x => l.length - x, ⟨0, ?_⟩, ?_⟩
  · simp only [go_sem, reduceIte, ↓reduceIte, sevalprocAttr, Z0, Z1, bytesOf, List.drop_zero]
    refine ⟨Nat.zero_le _, ?_⟩
    unfold idxFI
    cases idxF g l <;> simp
  · rintro x _ ⟨⟨hx, hv⟩, rfl⟩
    by_cases hlt : x < l.length
    · have d1 : decide ((x : Int) < (l.length : Int)) = true := by simp; omega
      have ex := wrN x (by omega)
      have hlt' : ((x : Int) < (l.length : Int)) := by omega
      have hg : (namesC l)[x]? = some [.s l[x]] := namesC_get l hlt
      rw [List.drop_eq_getElem_cons hlt, idxF] at hv
      simp only [go_sem, reduceIte, ↓reduceIte, sevalprocAttr, Z0, Z1, bytesOf, d1, hg, hlt', namesC_len]
      have hc := hf l[x] (List.getElem_mem hlt)
      refine acall_pure (by simpa using hc) ?_
      cases he : g l[x]
      · rw [he] at hv
        simp only [go_sem, reduceIte, ↓reduceIte, sevalprocAttr, Z0, Z1, bytesOf, he, ex]
        refine ⟨x + 1, ⟨⟨by omega, ?_⟩, rfl⟩, by omega⟩
        rw [hv]
        cases idxF g (l.drop (x + 1)) with
        | none => rfl
        | some k =>
          show ((x + (k + 1) : Nat) : Int) = ((x + 1 + k : Nat) : Int)
          rw [show x + (k + 1) = x + 1 + k by omega]
      · rw [he] at hv
        simp only [go_sem, reduceIte, ↓reduceIte, sevalprocAttr, Z0, Z1, bytesOf, he]
        rw [hv]
        exact ⟨by simp, rfl⟩
    · have : x = l.length := by omega
      subst this
      have d1 : decide ((l.length : Int) < (l.length : Int)) = false := by simp
      rw [List.drop_length] at hv
      simp only [go_sem, reduceIte, ↓reduceIte, sevalprocAttr, Z0, Z1, bytesOf, d1]
      rw [hv]
      exact ⟨rfl, rfl⟩
theorem containsF_Data {H:List AO} {l:List DataD} {g:DataD→Bool} {f:Nat} {caps:List AV} (hf:∀ a∈l,ACall Tryz.prog f ((av (DataD.cells a)) :: caps) H (pureQ (.p (.b (g a))) H)) :
  ACall Tryz.prog 31 [.p (.l (l.map DataD.cells)),.clo f caps] H (pureQ (.p (.b (l.any g))) H):=by
 refine call31 (by simp) ?_
 simp only [go_sem,reduceIte,↓reduceIte,sevalprocAttr,Z0,Z1,bytesOf,mc31,mr31]
 refine acall_pure (indexF_Data hf) ?_
 simp only [go_sem,reduceIte,↓reduceIte,sevalprocAttr,Z0,Z1,bytesOf,idxFI_any]
 exact ⟨rfl,rfl⟩
theorem containsF_Pat {H:List AO} {l:List PatD} {g:PatD→Bool} {f:Nat} {caps:List AV} (hf:∀ a∈l,ACall Tryz.prog f ((av (PatD.cells a)) :: caps) H (pureQ (.p (.b (g a))) H)) :
  ACall Tryz.prog 130 [.p (.l (l.map PatD.cells)),.clo f caps] H (pureQ (.p (.b (l.any g))) H):=by
 refine call130 (by simp) ?_
 simp only [go_sem,reduceIte,↓reduceIte,sevalprocAttr,Z0,Z1,bytesOf,mc130,mr130]
 refine acall_pure (indexF_Pat hf) ?_
 simp only [go_sem,reduceIte,↓reduceIte,sevalprocAttr,Z0,Z1,bytesOf,idxFI_any]
 exact ⟨rfl,rfl⟩
theorem containsF_TypeExp {H:List AO} {l:List TyE} {g:TyE→Bool} {f:Nat} {caps:List AV} (hf:∀ a∈l,ACall Tryz.prog f ((av (TyE.cells a)) :: caps) H (pureQ (.p (.b (g a))) H)) :
  ACall Tryz.prog 133 [.p (.l (l.map TyE.cells)),.clo f caps] H (pureQ (.p (.b (l.any g))) H):=by
 refine call133 (by simp) ?_
 simp only [go_sem,reduceIte,↓reduceIte,sevalprocAttr,Z0,Z1,bytesOf,mc133,mr133]
 refine acall_pure (indexF_TypeExp hf) ?_
 simp only [go_sem,reduceIte,↓reduceIte,sevalprocAttr,Z0,Z1,bytesOf,idxFI_any]
 exact ⟨rfl,rfl⟩
theorem containsF_String {H:List AO} {l:List (List UInt8)} {g:List UInt8→Bool} {f:Nat} {caps:List AV} (hf:∀ a∈l,ACall Tryz.prog f ((.p (.s a)) :: caps) H (pureQ (.p (.b (g a))) H)) :
  ACall Tryz.prog 105 [.p (.l (namesC l)),.clo f caps] H (pureQ (.p (.b (l.any g))) H):=by
 refine call105 (by simp) ?_
 simp only [go_sem,reduceIte,↓reduceIte,sevalprocAttr,Z0,Z1,bytesOf,mc105,mr105]
 refine acall_pure (indexF_String hf) ?_
 simp only [go_sem,reduceIte,↓reduceIte,sevalprocAttr,Z0,Z1,bytesOf,idxFI_any]
 exact ⟨rfl,rfl⟩
end Go.Proofs.YtnelfbcgplooiaaGreat.Pg