/- Texts DmA DmB DmC DmD DmE DmF DmG DmH, merged. -/
import Derived.Test.YtpaaiigpnbiglaaDoorAm31
import Derived.Test.YtpaaiigpnbiglaaDoorChecked
import Derived.KernelRfl
import Derived.Shelf.Strconv.Atoi
/- THE SMALL CODES of functions 3 4 5 6 7 8 9 10 11 12 13 15 17 19 20 21 22 24 25 27 28 29 30 31 32 33 36 38 39 40 41 46 47 48 49 50 51 54 55, and their ties to the program (printed by wip/tools/mkties2.py). -/
set_option linter.all false
namespace Go.Proofs.YtpaaiigpnbiglaaDoor.Mc
open Go.AM
def zl3_0 : List AV := [.p (.i .i64 0), .p (.s []), .p (.i .i64 0), .p (.s []), .p (.i .i64 0), .p (.nl), .p (.nl)]
def zl3_1 : List AV := [.p (.nl), .p (.i .i64 0), .p (.i .i64 0), .p (.i .i64 0), .p (.i .i64 0), .p (.i .i64 0)]
def zl3_2 : List AV := [.p (.i .i64 0), .p (.s []), .p (.i .i64 0), .p (.i .i64 0), .p (.nl), .p (.i .i64 0), .p (.s []), .p (.i .i64 0), .p (.s []), .p (.i .i64 0), .p (.nl), .p (.nl)]
/- laws.FnDeep -/
def lv3 : List Nat := [0, 2, 3, 4, 5, 6, 7, 8, 10, 16, 25, 37]
def mc3 : MC :=
.seq (.reg [
 ⟨.l 2, .mv (.c (.p (.b false))), none⟩]) (
 .seq (.seq (.reg [
 ⟨.t 9, .mv (.l 0), none⟩,
 ⟨.l 10, .call 4 [.t 9], none⟩]) (
 .cond (.l 10) (
 .seq (.reg [
 ⟨.l 2, .mv (.c (.p (.b true))), none⟩]) (
 .ret)) (
 .skip))) (
 .seq (.reg [
 ⟨.t 11, .mv (.l 0), none⟩,
 ⟨.t 12, .call 5 [.t 11, .c (.p (.i .i64 0))], none⟩,
 ⟨.t 13, .bin .rem (.t 12) (.c (.p (.i .i64 80))), none⟩,
 ⟨.l 3, .mv (.t 13), none⟩]) (
 .seq (.reg [
 ⟨.l 4, .mv (.c (.p (.s []))), none⟩]) (
 .seq (.seq (.reg [
 ⟨.l 5, .mv (.c (.p (.i .i64 0))), none⟩]) (
 .blk 0 (
 .loop (
 .seq (.seq (.reg [
 ⟨.t 14, .mv (.l 5), none⟩,
 ⟨.t 15, .mv (.l 3), none⟩,
 ⟨.l 16, .bin .lss (.t 14) (.t 15), none⟩]) (
 .cond (.l 16) (
 .skip) (
 .exit 0))) (
 .seq (.blk 1 (
 .reg [
 ⟨.t 19, .mv (.l 4), none⟩,
 ⟨.t 20, .bin .add (.t 19) (.c (.p (.s [40]))), none⟩,
 ⟨.l 4, .mv (.t 20), none⟩])) (
 .reg [
 ⟨.t 17, .mv (.l 5), none⟩,
 ⟨.t 18, .bin .add (.t 17) (.c (.p (.i .i64 1))), none⟩,
 ⟨.l 5, .mv (.t 18), none⟩])))))) (
 .seq (.reg [
 ⟨.t 21, .mv (.l 4), none⟩,
 ⟨.t 22, .bin .add (.t 21) (.c (.p (.s [55]))), none⟩,
 ⟨.l 4, .mv (.t 22), none⟩]) (
 .seq (.seq (.reg [
 ⟨.l 6, .mv (.c (.p (.i .i64 0))), none⟩]) (
 .blk 2 (
 .loop (
 .seq (.seq (.reg [
 ⟨.t 23, .mv (.l 6), none⟩,
 ⟨.t 24, .mv (.l 3), none⟩,
 ⟨.l 25, .bin .lss (.t 23) (.t 24), none⟩]) (
 .cond (.l 25) (
 .skip) (
 .exit 2))) (
 .seq (.blk 3 (
 .reg [
 ⟨.t 28, .mv (.l 4), none⟩,
 ⟨.t 29, .bin .add (.t 28) (.c (.p (.s [41]))), none⟩,
 ⟨.l 4, .mv (.t 29), none⟩])) (
 .reg [
 ⟨.t 26, .mv (.l 6), none⟩,
 ⟨.t 27, .bin .add (.t 26) (.c (.p (.i .i64 1))), none⟩,
 ⟨.l 6, .mv (.t 27), none⟩])))))) (
 .seq (.reg [
 ⟨.t 31, .mv (.l 4), none⟩,
 ⟨.t 32, .call 6 [.t 31], none⟩,
 ⟨.t 30, .mv (.t 32), none⟩,
 ⟨.t 33, .ext (.t 30) 0, none⟩,
 ⟨.t 34, .ext (.t 30) 1, none⟩,
 ⟨.l 7, .alloc zl3_0, none⟩,
 ⟨.l 8, .alloc [.p (.i .i64 0), .p (.i .i64 0)], none⟩,
 ⟨.no, .sto 7 (.l 7) (.t 33), none⟩,
 ⟨.no, .sto 2 (.l 8) (.t 34), none⟩]) (
 .seq (.seq (.reg [
 ⟨.t 35, .mv (.l 3), none⟩,
 ⟨.t 36, .bin .add (.t 35) (.c (.p (.i .i64 1))), none⟩,
 ⟨.l 37, .bin .gtr (.t 36) (.c (.p (.i .i64 40))), none⟩]) (
 .cond (.l 37) (
 .seq (.reg [
 ⟨.t 38, .fad 0 (.l 8), none⟩,
 ⟨.t 39, .ld false 1 (.t 38), none⟩,
 ⟨.t 40, .bin .eql (.t 39) (.c (.p (.i .i64 12))), none⟩,
 ⟨.t 41, .mv (.t 40), none⟩,
 ⟨.t 42, .fad 1 (.l 8), some ((.t 41), true)⟩,
 ⟨.t 43, .ld false 1 (.t 42), some ((.t 41), true)⟩,
 ⟨.t 44, .bin .eql (.t 43) (.c (.p (.i .i64 40))), some ((.t 41), true)⟩,
 ⟨.t 45, .pick (.t 41) (.t 44) (.c (.p (.b false))), none⟩,
 ⟨.l 2, .mv (.t 45), none⟩]) (
 .ret)) (
 .skip))) (
 .seq (.reg [
 ⟨.t 46, .fad 0 (.l 8), none⟩,
 ⟨.t 47, .ld false 1 (.t 46), none⟩,
 ⟨.t 48, .bin .eql (.t 47) (.c (.p (.i .i64 0))), none⟩,
 ⟨.t 49, .mv (.t 48), none⟩,
 ⟨.t 50, .fad 0 (.l 7), some ((.t 49), true)⟩,
 ⟨.t 51, .ld false 1 (.t 50), some ((.t 49), true)⟩,
 ⟨.t 52, .bin .eql (.t 51) (.c (.p (.i .i64 1))), some ((.t 49), true)⟩,
 ⟨.t 53, .pick (.t 49) (.t 52) (.c (.p (.b false))), none⟩,
 ⟨.t 54, .mv (.t 53), none⟩,
 ⟨.t 55, .fad 2 (.l 7), some ((.t 54), true)⟩,
 ⟨.t 56, .ld false 1 (.t 55), some ((.t 54), true)⟩,
 ⟨.t 57, .bin .eql (.t 56) (.c (.p (.i .i64 7))), some ((.t 54), true)⟩,
 ⟨.t 58, .pick (.t 54) (.t 57) (.c (.p (.b false))), none⟩,
 ⟨.t 59, .mv (.t 58), none⟩,
 ⟨.t 60, .fad 4 (.l 7), some ((.t 59), true)⟩,
 ⟨.t 61, .ld false 1 (.t 60), some ((.t 59), true)⟩,
 ⟨.t 62, .mv (.l 3), some ((.t 59), true)⟩,
 ⟨.t 63, .bin .eql (.t 61) (.t 62), some ((.t 59), true)⟩,
 ⟨.t 64, .pick (.t 59) (.t 63) (.c (.p (.b false))), none⟩,
 ⟨.l 2, .mv (.t 64), none⟩]) (
 .ret))))))))))
theorem mc3_eq : (Tryd.f3.body.map (compile lv3 Tryd.prog 65)) = some mc3 := by kernel_rfl
def mr3 : List MR := [.t 2]
theorem mr3_eq : cRess lv3 Tryd.prog Tryd.f3.results.toList = some mr3 := by kernel_rfl
theorem call3 {args : List AV} {H : List AO} {Q : AV → List AO → Prop} (hla : args.length ≤ 65) (h : wpm (ACall Tryd.prog) mc3 (finK mr3 Q) ⟨argEnv 0 args, [], H⟩) : ACall Tryd.prog 3 args H Q :=
  acall_mc (by kernel_rfl) Tryd.func3 mc3_eq Tryd.ntmps3 (by kernel_rfl) mr3_eq hla h
/- laws.big -/
def lv4 : List Nat := [0, 2]
def mc4 : MC :=
.seq (.reg [
 ⟨.l 2, .mv (.c (.p (.b false))), none⟩]) (
 .seq (.reg [
 ⟨.t 3, .mv (.l 0), none⟩,
 ⟨.t 4, .len false (.t 3), none⟩,
 ⟨.t 5, .bin .gtr (.t 4) (.c (.p (.i .i64 1048576))), none⟩,
 ⟨.l 2, .mv (.t 5), none⟩]) (
 .ret))
theorem mc4_eq : (Tryd.f4.body.map (compile lv4 Tryd.prog 6)) = some mc4 := by kernel_rfl
def mr4 : List MR := [.t 2]
theorem mr4_eq : cRess lv4 Tryd.prog Tryd.f4.results.toList = some mr4 := by kernel_rfl
theorem call4 {args : List AV} {H : List AO} {Q : AV → List AO → Prop} (hla : args.length ≤ 6) (h : wpm (ACall Tryd.prog) mc4 (finK mr4 Q) ⟨argEnv 0 args, [], H⟩) : ACall Tryd.prog 4 args H Q :=
  acall_mc (by kernel_rfl) Tryd.func4 mc4_eq Tryd.ntmps4 (by kernel_rfl) mr4_eq hla h
/- laws.at -/
def lv5 : List Nat := [0, 1, 4, 8]
def mc5 : MC :=
.seq (.reg [
 ⟨.l 4, .mv (.c (.p (.i .i64 0))), none⟩]) (
 .seq (.seq (.reg [
 ⟨.t 5, .mv (.l 1), none⟩,
 ⟨.t 6, .mv (.l 0), none⟩,
 ⟨.t 7, .len false (.t 6), none⟩,
 ⟨.l 8, .bin .lss (.t 5) (.t 7), none⟩]) (
 .cond (.l 8) (
 .seq (.reg [
 ⟨.t 9, .mv (.l 0), none⟩,
 ⟨.t 10, .mv (.l 1), none⟩,
 ⟨.t 11, .ixs 1 (.t 9) (.t 10), none⟩,
 ⟨.t 12, .ld false 1 (.t 11), none⟩,
 ⟨.t 13, .conv .i64 (.t 12), none⟩,
 ⟨.l 4, .mv (.t 13), none⟩]) (
 .ret)) (
 .skip))) (
 .seq (.reg [
 ⟨.t 14, .mv (.l 1), none⟩,
 ⟨.t 15, .bin .mul (.t 14) (.c (.p (.i .i64 31))), none⟩,
 ⟨.t 16, .mv (.l 0), none⟩,
 ⟨.t 17, .len false (.t 16), none⟩,
 ⟨.t 18, .bin .mul (.t 17) (.c (.p (.i .i64 7))), none⟩,
 ⟨.t 19, .bin .add (.t 15) (.t 18), none⟩,
 ⟨.t 20, .bin .rem (.t 19) (.c (.p (.i .i64 256))), none⟩,
 ⟨.l 4, .mv (.t 20), none⟩]) (
 .ret)))
theorem mc5_eq : (Tryd.f5.body.map (compile lv5 Tryd.prog 21)) = some mc5 := by kernel_rfl
def mr5 : List MR := [.t 4]
theorem mr5_eq : cRess lv5 Tryd.prog Tryd.f5.results.toList = some mr5 := by kernel_rfl
theorem call5 {args : List AV} {H : List AO} {Q : AV → List AO → Prop} (hla : args.length ≤ 21) (h : wpm (ACall Tryd.prog) mc5 (finK mr5 Q) ⟨argEnv 0 args, [], H⟩) : ACall Tryd.prog 5 args H Q :=
  acall_mc (by kernel_rfl) Tryd.func5 mc5_eq Tryd.ntmps5 (by kernel_rfl) mr5_eq hla h
/- impl.ParseExp -/
def lv6 : List Nat := [0, 2, 3, 4, 5, 6, 7, 15, 26]
def mc6 : MC :=
.seq (.reg [
 ⟨.l 2, .alloc zl3_0, none⟩,
 ⟨.l 3, .alloc [.p (.i .i64 0), .p (.i .i64 0)], none⟩]) (
 .seq (.reg [
 ⟨.t 9, .mv (.l 0), none⟩,
 ⟨.t 10, .call 7 [.t 9], none⟩,
 ⟨.t 8, .mv (.t 10), none⟩,
 ⟨.t 11, .ext (.t 8) 0, none⟩,
 ⟨.t 12, .ext (.t 8) 1, none⟩,
 ⟨.l 5, .alloc [.p (.i .i64 0), .p (.i .i64 0)], none⟩,
 ⟨.l 4, .mv (.t 11), none⟩,
 ⟨.no, .sto 2 (.l 5) (.t 12), none⟩]) (
 .seq (.seq (.reg [
 ⟨.t 13, .fad 0 (.l 5), none⟩,
 ⟨.t 14, .ld false 1 (.t 13), none⟩,
 ⟨.l 15, .bin .neq (.t 14) (.c (.p (.i .i64 0))), none⟩]) (
 .cond (.l 15) (
 .seq (.drw [
 ⟨.t 16, .build zl3_0 [], none⟩,
 ⟨.t 17, .ld true 2 (.l 5), none⟩,
 ⟨.no, .sto 7 (.l 2) (.t 16), none⟩] [
 ⟨.no, .sto 2 (.l 3) (.t 17), none⟩]) (
 .ret)) (
 .skip))) (
 .seq (.reg [
 ⟨.t 18, .mv (.l 4), none⟩,
 ⟨.t 19, .build zl3_1 [(0, 1, (.t 18)), (2, 1, (.c (.p (.i .i64 40))))], none⟩,
 ⟨.t 20, .box 6 (.t 19), none⟩,
 ⟨.l 6, .mv (.t 20), none⟩]) (
 .seq (.reg [
 ⟨.t 21, .mv (.l 6), none⟩,
 ⟨.t 22, .call 8 [.t 21, .c (.p (.i .i64 1))], none⟩,
 ⟨.l 7, .alloc zl3_0, none⟩,
 ⟨.no, .sto 7 (.l 7) (.t 22), none⟩]) (
 .seq (.reg [
 ⟨.t 23, .mv (.l 6), none⟩,
 ⟨.t 24, .call 9 [.t 23], none⟩]) (
 .seq (.seq (.reg [
 ⟨.t 25, .mv (.l 6), none⟩,
 ⟨.l 26, .call 10 [.t 25], none⟩]) (
 .cond (.l 26) (
 .seq (.drw [
 ⟨.t 27, .build zl3_0 [], none⟩,
 ⟨.t 28, .mv (.l 6), none⟩,
 ⟨.t 29, .nilc (.t 28), none⟩,
 ⟨.t 30, .fad 4 (.t 29), none⟩,
 ⟨.t 31, .ld true 2 (.t 30), none⟩,
 ⟨.no, .sto 7 (.l 2) (.t 27), none⟩] [
 ⟨.no, .sto 2 (.l 3) (.t 31), none⟩]) (
 .ret)) (
 .skip))) (
 .seq (.reg [
 ⟨.t 32, .ld true 7 (.l 7), none⟩,
 ⟨.t 33, .build [.p (.i .i64 0), .p (.i .i64 0)] [], none⟩,
 ⟨.no, .sto 7 (.l 2) (.t 32), none⟩,
 ⟨.no, .sto 2 (.l 3) (.t 33), none⟩]) (
 .ret))))))))
theorem mc6_eq : (Tryd.f6.body.map (compile lv6 Tryd.prog 34)) = some mc6 := by kernel_rfl
def mr6 : List MR := [.cell true 7 2, .cell true 2 3]
theorem mr6_eq : cRess lv6 Tryd.prog Tryd.f6.results.toList = some mr6 := by kernel_rfl
theorem call6 {args : List AV} {H : List AO} {Q : AV → List AO → Prop} (hla : args.length ≤ 34) (h : wpm (ACall Tryd.prog) mc6 (finK mr6 Q) ⟨argEnv 0 args, [], H⟩) : ACall Tryd.prog 6 args H Q :=
  acall_mc (by kernel_rfl) Tryd.func6 mc6_eq Tryd.ntmps6 (by kernel_rfl) mr6_eq hla h
/- impl.Lex -/
def lv7 : List Nat := [0, 2, 3, 6]
def mc7 : MC :=
.seq (.reg [
 ⟨.l 2, .mv (.c (.p (.nl))), none⟩,
 ⟨.l 3, .alloc [.p (.i .i64 0), .p (.i .i64 0)], none⟩]) (
 .seq (.seq (.reg [
 ⟨.t 4, .mv (.l 0), none⟩,
 ⟨.t 5, .len true (.t 4), none⟩,
 ⟨.l 6, .bin .gtr (.t 5) (.c (.p (.i .i64 4000))), none⟩]) (
 .cond (.l 6) (
 .seq (.reg [
 ⟨.t 7, .build [.p (.i .i64 0), .p (.i .i64 0)] [(0, 1, (.c (.p (.i .i64 5))))], none⟩,
 ⟨.l 2, .mv (.c (.p (.nl))), none⟩,
 ⟨.no, .sto 2 (.l 3) (.t 7), none⟩]) (
 .ret)) (
 .skip))) (
 .seq (.reg [
 ⟨.t 8, .mv (.l 0), none⟩,
 ⟨.t 9, .call 11 [.t 8, .c (.p (.i .i64 1200))], none⟩,
 ⟨.t 10, .ext (.t 9) 0, none⟩,
 ⟨.t 11, .ext (.t 9) 1, none⟩,
 ⟨.l 2, .mv (.t 10), none⟩,
 ⟨.no, .sto 2 (.l 3) (.t 11), none⟩]) (
 .ret)))
theorem mc7_eq : (Tryd.f7.body.map (compile lv7 Tryd.prog 12)) = some mc7 := by kernel_rfl
def mr7 : List MR := [.t 2, .cell true 2 3]
theorem mr7_eq : cRess lv7 Tryd.prog Tryd.f7.results.toList = some mr7 := by kernel_rfl
theorem call7 {args : List AV} {H : List AO} {Q : AV → List AO → Prop} (hla : args.length ≤ 12) (h : wpm (ACall Tryd.prog) mc7 (finK mr7 Q) ⟨argEnv 0 args, [], H⟩) : ACall Tryd.prog 7 args H Q :=
  acall_mc (by kernel_rfl) Tryd.func7 mc7_eq Tryd.ntmps7 (by kernel_rfl) mr7_eq hla h
/- (*impl.parser).expr -/
def lv8 : List Nat := [0, 1, 2, 3, 4, 5, 6, 7, 8, 9, 10, 11, 15, 20, 27, 34, 59, 75, 105, 119, 139]
def mc8 : MC :=
.seq (.reg [
 ⟨.l 2, .box 1 (.l 0), none⟩,
 ⟨.l 3, .box 1 (.l 1), none⟩,
 ⟨.l 4, .alloc zl3_0, none⟩]) (
 .seq (.seq (.reg [
 ⟨.t 12, .ld false 1 (.l 2), none⟩,
 ⟨.t 13, .ld false 1 (.l 3), none⟩,
 ⟨.t 14, .call 12 [.t 12, .t 13], none⟩,
 ⟨.l 15, .un .not (.t 14), none⟩]) (
 .cond (.l 15) (
 .seq (.reg [
 ⟨.t 16, .build zl3_0 [], none⟩,
 ⟨.no, .sto 7 (.l 4) (.t 16), none⟩]) (
 .ret)) (
 .skip))) (
 .seq (.reg [
 ⟨.t 17, .ld false 1 (.l 2), none⟩,
 ⟨.t 18, .call 13 [.t 17], none⟩,
 ⟨.l 5, .alloc [.p (.i .i64 0), .p (.s []), .p (.i .i64 0), .p (.i .i64 0)], none⟩,
 ⟨.no, .sto 4 (.l 5) (.t 18), none⟩]) (
 .seq (.reg [
 ⟨.t 19, .mkf 14 [.l 2, .l 3], none⟩,
 ⟨.l 6, .mv (.t 19), none⟩]) (
 .seq (.blk 0 (
 .seq (.reg [
 ⟨.t 21, .ld false 1 (.l 2), none⟩,
 ⟨.t 22, .call 15 [.t 21, .c (.p (.s [108, 101, 116]))], none⟩,
 ⟨.l 20, .mv (.t 22), none⟩]) (
 .cond (.l 20) (
 .seq (.reg [
 ⟨.t 23, .fad 3 (.l 5), none⟩,
 ⟨.t 24, .ld false 1 (.t 23), none⟩,
 ⟨.t 25, .build zl3_0 [(0, 1, (.c (.p (.i .i64 10)))), (4, 1, (.t 24))], none⟩,
 ⟨.l 7, .alloc zl3_0, none⟩,
 ⟨.no, .sto 7 (.l 7) (.t 25), none⟩]) (
 .seq (.seq (.reg [
 ⟨.t 26, .ld false 1 (.l 2), none⟩,
 ⟨.l 27, .call 15 [.t 26, .c (.p (.s [114, 101, 99]))], none⟩]) (
 .cond (.l 27) (
 .reg [
 ⟨.t 28, .fad 0 (.l 7), none⟩,
 ⟨.no, .sto 1 (.t 28) (.c (.p (.i .i64 11))), none⟩]) (
 .skip))) (
 .seq (.reg [
 ⟨.t 29, .ld false 1 (.l 2), none⟩,
 ⟨.t 30, .call 16 [.t 29, .c (.p (.i .i64 3))], none⟩,
 ⟨.t 31, .fad 1 (.l 7), none⟩,
 ⟨.no, .sto 1 (.t 31) (.t 30), none⟩]) (
 .seq (.seq (.reg [
 ⟨.t 32, .fad 0 (.l 7), none⟩,
 ⟨.t 33, .ld false 1 (.t 32), none⟩,
 ⟨.l 34, .bin .eql (.t 33) (.c (.p (.i .i64 11))), none⟩]) (
 .cond (.l 34) (
 .reg [
 ⟨.t 35, .ld false 1 (.l 2), none⟩,
 ⟨.t 36, .call 16 [.t 35, .c (.p (.i .i64 3))], none⟩,
 ⟨.t 37, .fad 3 (.l 7), none⟩,
 ⟨.no, .sto 1 (.t 37) (.t 36), none⟩]) (
 .skip))) (
 .seq (.reg [
 ⟨.t 38, .ld false 1 (.l 2), none⟩,
 ⟨.t 39, .bsl 1 [.p (.s [])] 1 [(0, (.c (.p (.s [61]))))], none⟩,
 ⟨.t 40, .call 17 [.t 38, .t 39], none⟩]) (
 .seq (.drw [
 ⟨.t 41, .fad 5 (.l 7), none⟩,
 ⟨.t 42, .ld false 1 (.t 41), none⟩,
 ⟨.t 43, .mv (.l 6), none⟩,
 ⟨.t 44, .calv (.t 43) [], none⟩,
 ⟨.t 45, .bsl 7 zl3_0 1 [(0, (.t 44))], none⟩] [
 ⟨.t 46, .app 7 104 (.t 42) (.t 45), none⟩,
 ⟨.t 47, .fad 5 (.l 7), none⟩,
 ⟨.no, .sto 1 (.t 47) (.t 46), none⟩]) (
 .seq (.reg [
 ⟨.t 48, .ld false 1 (.l 2), none⟩,
 ⟨.t 49, .bsl 1 [.p (.s [])] 1 [(0, (.c (.p (.s [105, 110]))))], none⟩,
 ⟨.t 50, .call 17 [.t 48, .t 49], none⟩]) (
 .seq (.drw [
 ⟨.t 51, .fad 5 (.l 7), none⟩,
 ⟨.t 52, .ld false 1 (.t 51), none⟩,
 ⟨.t 53, .mv (.l 6), none⟩,
 ⟨.t 54, .calv (.t 53) [], none⟩,
 ⟨.t 55, .bsl 7 zl3_0 1 [(0, (.t 54))], none⟩] [
 ⟨.t 56, .app 7 104 (.t 52) (.t 55), none⟩,
 ⟨.t 57, .fad 5 (.l 7), none⟩,
 ⟨.no, .sto 1 (.t 57) (.t 56), none⟩]) (
 .seq (.reg [
 ⟨.t 58, .ld true 7 (.l 7), none⟩,
 ⟨.no, .sto 7 (.l 4) (.t 58), none⟩]) (
 .ret)))))))))) (
 .seq (.reg [
 ⟨.t 60, .ld false 1 (.l 2), none⟩,
 ⟨.t 61, .call 15 [.t 60, .c (.p (.s [102, 117, 110]))], none⟩,
 ⟨.l 59, .mv (.t 61), none⟩]) (
 .cond (.l 59) (
 .seq (.drw [
 ⟨.t 62, .fad 3 (.l 5), none⟩,
 ⟨.t 63, .ld false 1 (.t 62), none⟩,
 ⟨.t 64, .ld false 1 (.l 2), none⟩,
 ⟨.t 65, .call 16 [.t 64, .c (.p (.i .i64 3))], none⟩,
 ⟨.t 66, .build zl3_0 [(0, 1, (.c (.p (.i .i64 8)))), (4, 1, (.t 63)), (1, 1, (.t 65))], none⟩,
 ⟨.l 8, .alloc zl3_0, none⟩] [
 ⟨.no, .sto 7 (.l 8) (.t 66), none⟩]) (
 .seq (.reg [
 ⟨.t 67, .ld false 1 (.l 2), none⟩,
 ⟨.t 68, .bsl 1 [.p (.s [])] 1 [(0, (.c (.p (.s [45, 62]))))], none⟩,
 ⟨.t 69, .call 17 [.t 67, .t 68], none⟩]) (
 .seq (.reg [
 ⟨.t 70, .mv (.l 6), none⟩,
 ⟨.t 71, .calv (.t 70) [], none⟩,
 ⟨.t 72, .bsl 7 zl3_0 1 [(0, (.t 71))], none⟩,
 ⟨.t 73, .fad 5 (.l 8), none⟩,
 ⟨.no, .sto 1 (.t 73) (.t 72), none⟩]) (
 .seq (.reg [
 ⟨.t 74, .ld true 7 (.l 8), none⟩,
 ⟨.no, .sto 7 (.l 4) (.t 74), none⟩]) (
 .ret))))) (
 .seq (.reg [
 ⟨.t 76, .ld false 1 (.l 2), none⟩,
 ⟨.t 77, .call 15 [.t 76, .c (.p (.s [105, 102]))], none⟩,
 ⟨.l 75, .mv (.t 77), none⟩]) (
 .cond (.l 75) (
 .seq (.drw [
 ⟨.t 78, .fad 3 (.l 5), none⟩,
 ⟨.t 79, .ld false 1 (.t 78), none⟩,
 ⟨.t 80, .mv (.l 6), none⟩,
 ⟨.t 81, .calv (.t 80) [], none⟩,
 ⟨.t 82, .bsl 7 zl3_0 1 [(0, (.t 81))], none⟩,
 ⟨.t 83, .build zl3_0 [(0, 1, (.c (.p (.i .i64 12)))), (4, 1, (.t 79)), (5, 1, (.t 82))], none⟩,
 ⟨.l 9, .alloc zl3_0, none⟩] [
 ⟨.no, .sto 7 (.l 9) (.t 83), none⟩]) (
 .seq (.reg [
 ⟨.t 84, .ld false 1 (.l 2), none⟩,
 ⟨.t 85, .bsl 1 [.p (.s [])] 1 [(0, (.c (.p (.s [116, 104, 101, 110]))))], none⟩,
 ⟨.t 86, .call 17 [.t 84, .t 85], none⟩]) (
 .seq (.drw [
 ⟨.t 87, .fad 5 (.l 9), none⟩,
 ⟨.t 88, .ld false 1 (.t 87), none⟩,
 ⟨.t 89, .mv (.l 6), none⟩,
 ⟨.t 90, .calv (.t 89) [], none⟩,
 ⟨.t 91, .bsl 7 zl3_0 1 [(0, (.t 90))], none⟩] [
 ⟨.t 92, .app 7 104 (.t 88) (.t 91), none⟩,
 ⟨.t 93, .fad 5 (.l 9), none⟩,
 ⟨.no, .sto 1 (.t 93) (.t 92), none⟩]) (
 .seq (.reg [
 ⟨.t 94, .ld false 1 (.l 2), none⟩,
 ⟨.t 95, .bsl 1 [.p (.s [])] 1 [(0, (.c (.p (.s [101, 108, 115, 101]))))], none⟩,
 ⟨.t 96, .call 17 [.t 94, .t 95], none⟩]) (
 .seq (.drw [
 ⟨.t 97, .fad 5 (.l 9), none⟩,
 ⟨.t 98, .ld false 1 (.t 97), none⟩,
 ⟨.t 99, .mv (.l 6), none⟩,
 ⟨.t 100, .calv (.t 99) [], none⟩,
 ⟨.t 101, .bsl 7 zl3_0 1 [(0, (.t 100))], none⟩] [
 ⟨.t 102, .app 7 104 (.t 98) (.t 101), none⟩,
 ⟨.t 103, .fad 5 (.l 9), none⟩,
 ⟨.no, .sto 1 (.t 103) (.t 102), none⟩]) (
 .seq (.reg [
 ⟨.t 104, .ld true 7 (.l 9), none⟩,
 ⟨.no, .sto 7 (.l 4) (.t 104), none⟩]) (
 .ret))))))) (
 .seq (.reg [
 ⟨.t 106, .ld false 1 (.l 2), none⟩,
 ⟨.t 107, .call 15 [.t 106, .c (.p (.s [109, 97, 116, 99, 104]))], none⟩,
 ⟨.l 105, .mv (.t 107), none⟩]) (
 .cond (.l 105) (
 .seq (.drw [
 ⟨.t 108, .fad 3 (.l 5), none⟩,
 ⟨.t 109, .ld false 1 (.t 108), none⟩,
 ⟨.t 110, .mv (.l 6), none⟩,
 ⟨.t 111, .calv (.t 110) [], none⟩,
 ⟨.t 112, .bsl 7 zl3_0 1 [(0, (.t 111))], none⟩,
 ⟨.t 113, .build zl3_0 [(0, 1, (.c (.p (.i .i64 13)))), (4, 1, (.t 109)), (5, 1, (.t 112))], none⟩,
 ⟨.l 10, .alloc zl3_0, none⟩] [
 ⟨.no, .sto 7 (.l 10) (.t 113), none⟩]) (
 .seq (.reg [
 ⟨.t 114, .ld false 1 (.l 2), none⟩,
 ⟨.t 115, .bsl 1 [.p (.s [])] 2 [(0, (.c (.p (.s [119, 105, 116, 104])))), (1, (.c (.p (.s [124]))))], none⟩,
 ⟨.t 116, .call 17 [.t 114, .t 115], none⟩]) (
 .seq (.blk 1 (
 .loop (
 .seq (.seq (.reg [
 ⟨.t 117, .ld false 1 (.l 2), none⟩,
 ⟨.t 118, .call 10 [.t 117], none⟩,
 ⟨.l 119, .un .not (.t 118), none⟩]) (
 .cond (.l 119) (
 .skip) (
 .exit 1))) (
 .blk 2 (
 .seq (.reg [
 ⟨.t 120, .ld false 1 (.l 2), none⟩,
 ⟨.t 121, .ld false 1 (.l 3), none⟩,
 ⟨.t 122, .bin .add (.t 121) (.c (.p (.i .i64 1))), none⟩,
 ⟨.t 123, .call 18 [.t 120, .t 122], none⟩,
 ⟨.t 124, .build zl3_2 [(0, 5, (.t 123))], none⟩,
 ⟨.l 11, .alloc zl3_2, none⟩,
 ⟨.no, .sto 12 (.l 11) (.t 124), none⟩]) (
 .seq (.reg [
 ⟨.t 125, .ld false 1 (.l 2), none⟩,
 ⟨.t 126, .bsl 1 [.p (.s [])] 1 [(0, (.c (.p (.s [45, 62]))))], none⟩,
 ⟨.t 127, .call 17 [.t 125, .t 126], none⟩]) (
 .seq (.reg [
 ⟨.t 128, .mv (.l 6), none⟩,
 ⟨.t 129, .calv (.t 128) [], none⟩,
 ⟨.t 130, .fad 5 (.l 11), none⟩,
 ⟨.no, .sto 7 (.t 130) (.t 129), none⟩]) (
 .seq (.reg [
 ⟨.t 131, .fad 6 (.l 10), none⟩,
 ⟨.t 132, .ld false 1 (.t 131), none⟩,
 ⟨.t 133, .ld true 12 (.l 11), none⟩,
 ⟨.t 134, .bsl 12 zl3_2 1 [(0, (.t 133))], none⟩,
 ⟨.t 135, .app 12 168 (.t 132) (.t 134), none⟩,
 ⟨.t 136, .fad 6 (.l 10), none⟩,
 ⟨.no, .sto 1 (.t 136) (.t 135), none⟩]) (
 .seq (.reg [
 ⟨.t 137, .ld false 1 (.l 2), none⟩,
 ⟨.t 138, .call 15 [.t 137, .c (.p (.s [124]))], none⟩,
 ⟨.l 139, .un .not (.t 138), none⟩]) (
 .cond (.l 139) (
 .exit 1) (
 .skip))))))))))) (
 .seq (.reg [
 ⟨.t 140, .ld false 1 (.l 2), none⟩,
 ⟨.t 141, .bsl 1 [.p (.s [])] 1 [(0, (.c (.p (.s [101, 110, 100]))))], none⟩,
 ⟨.t 142, .call 17 [.t 140, .t 141], none⟩]) (
 .seq (.reg [
 ⟨.t 143, .ld true 7 (.l 10), none⟩,
 ⟨.no, .sto 7 (.l 4) (.t 143), none⟩]) (
 .ret)))))) (
 .skip)))))))))) (
 .seq (.reg [
 ⟨.t 144, .ld false 1 (.l 2), none⟩,
 ⟨.t 145, .ld false 1 (.l 3), none⟩,
 ⟨.t 146, .call 19 [.t 144, .c (.p (.i .i64 0)), .t 145], none⟩,
 ⟨.no, .sto 7 (.l 4) (.t 146), none⟩]) (
 .ret))))))
theorem mc8_eq : (Tryd.f8.body.map (compile lv8 Tryd.prog 147)) = some mc8 := by kernel_rfl
def mr8 : List MR := [.cell true 7 4]
theorem mr8_eq : cRess lv8 Tryd.prog Tryd.f8.results.toList = some mr8 := by kernel_rfl
theorem call8 {args : List AV} {H : List AO} {Q : AV → List AO → Prop} (hla : args.length ≤ 147) (h : wpm (ACall Tryd.prog) mc8 (finK mr8 Q) ⟨argEnv 0 args, [], H⟩) : ACall Tryd.prog 8 args H Q :=
  acall_mc (by kernel_rfl) Tryd.func8 mc8_eq Tryd.ntmps8 (by kernel_rfl) mr8_eq hla h
/- (*impl.parser).end -/
def lv9 : List Nat := [0, 4]
def mc9 : MC :=
.seq (.reg [
 ⟨.t 2, .mv (.l 0), none⟩,
 ⟨.t 3, .call 20 [.t 2, .c (.p (.i .i64 8))], none⟩,
 ⟨.l 4, .un .not (.t 3), none⟩]) (
 .cond (.l 4) (
 .reg [
 ⟨.t 5, .mv (.l 0), none⟩,
 ⟨.t 6, .call 21 [.t 5, .c (.p (.i .i64 11))], none⟩]) (
 .skip))
theorem mc9_eq : (Tryd.f9.body.map (compile lv9 Tryd.prog 7)) = some mc9 := by kernel_rfl
def mr9 : List MR := []
theorem mr9_eq : cRess lv9 Tryd.prog Tryd.f9.results.toList = some mr9 := by kernel_rfl
theorem call9 {args : List AV} {H : List AO} {Q : AV → List AO → Prop} (hla : args.length ≤ 7) (h : wpm (ACall Tryd.prog) mc9 (finK mr9 Q) ⟨argEnv 0 args, [], H⟩) : ACall Tryd.prog 9 args H Q :=
  acall_mc (by kernel_rfl) Tryd.func9 mc9_eq Tryd.ntmps9 (by kernel_rfl) mr9_eq hla h
/- (*impl.parser).failed -/
def lv10 : List Nat := [0, 2]
def mc10 : MC :=
.seq (.reg [
 ⟨.l 2, .mv (.c (.p (.b false))), none⟩]) (
 .seq (.reg [
 ⟨.t 3, .mv (.l 0), none⟩,
 ⟨.t 4, .nilc (.t 3), none⟩,
 ⟨.t 5, .fad 4 (.t 4), none⟩,
 ⟨.t 6, .fad 0 (.t 5), none⟩,
 ⟨.t 7, .ld false 1 (.t 6), none⟩,
 ⟨.t 8, .bin .neq (.t 7) (.c (.p (.i .i64 0))), none⟩,
 ⟨.l 2, .mv (.t 8), none⟩]) (
 .ret))
theorem mc10_eq : (Tryd.f10.body.map (compile lv10 Tryd.prog 9)) = some mc10 := by kernel_rfl
def mr10 : List MR := [.t 2]
theorem mr10_eq : cRess lv10 Tryd.prog Tryd.f10.results.toList = some mr10 := by kernel_rfl
theorem call10 {args : List AV} {H : List AO} {Q : AV → List AO → Prop} (hla : args.length ≤ 9) (h : wpm (ACall Tryd.prog) mc10 (finK mr10 Q) ⟨argEnv 0 args, [], H⟩) : ACall Tryd.prog 10 args H Q :=
  acall_mc (by kernel_rfl) Tryd.func10 mc10_eq Tryd.ntmps10 (by kernel_rfl) mr10_eq hla h
/- impl.lexAll -/
def lv11 : List Nat := [0, 1, 4, 5, 6, 7, 8, 9, 10, 14, 17, 18, 24, 38, 43]
def mc11 : MC :=
.seq (.reg [
 ⟨.l 4, .mv (.c (.p (.nl))), none⟩,
 ⟨.l 5, .alloc [.p (.i .i64 0), .p (.i .i64 0)], none⟩]) (
 .seq (.reg [
 ⟨.l 6, .mv (.c (.p (.nl))), none⟩]) (
 .seq (.seq (.reg [
 ⟨.l 7, .mv (.c (.p (.i .i64 0))), none⟩]) (
 .blk 0 (
 .loop (
 .seq (.seq (.reg [
 ⟨.t 11, .mv (.l 7), none⟩,
 ⟨.t 12, .mv (.l 0), none⟩,
 ⟨.t 13, .len true (.t 12), none⟩,
 ⟨.l 14, .bin .lss (.t 11) (.t 13), none⟩]) (
 .cond (.l 14) (
 .skip) (
 .exit 0))) (
 .blk 1 (
 .seq (.seq (.reg [
 ⟨.t 15, .mv (.l 0), none⟩,
 ⟨.t 16, .mv (.l 7), none⟩,
 ⟨.l 17, .ixt (.t 15) (.t 16), none⟩]) (
 .blk 2 (
 .seq (.seq (.reg [
 ⟨.t 19, .bin .eql (.l 17) (.c (.p (.i .u8 32))), none⟩,
 ⟨.l 18, .mv (.t 19), none⟩]) (
 .cond (.l 18) (
 .skip) (
 .seq (.reg [
 ⟨.t 20, .bin .eql (.l 17) (.c (.p (.i .u8 9))), none⟩,
 ⟨.l 18, .mv (.t 20), none⟩]) (
 .cond (.l 18) (
 .skip) (
 .reg [
 ⟨.t 21, .bin .eql (.l 17) (.c (.p (.i .u8 10))), none⟩,
 ⟨.l 18, .mv (.t 21), none⟩]))))) (
 .cond (.l 18) (
 .seq (.reg [
 ⟨.t 22, .mv (.l 7), none⟩,
 ⟨.t 23, .bin .add (.t 22) (.c (.p (.i .i64 1))), none⟩,
 ⟨.l 7, .mv (.t 23), none⟩]) (
 .exit 1)) (
 .seq (.reg [
 ⟨.t 25, .bin .eql (.l 17) (.c (.p (.i .u8 35))), none⟩,
 ⟨.l 24, .mv (.t 25), none⟩]) (
 .cond (.l 24) (
 .seq (.reg [
 ⟨.t 26, .mv (.l 0), none⟩,
 ⟨.t 27, .mv (.l 7), none⟩,
 ⟨.t 28, .call 22 [.t 26, .t 27, .c (.clo 23 [])], none⟩,
 ⟨.l 7, .mv (.t 28), none⟩]) (
 .exit 1)) (
 .skip))))))) (
 .seq (.reg [
 ⟨.t 30, .mv (.l 0), none⟩,
 ⟨.t 31, .mv (.l 7), none⟩,
 ⟨.t 32, .call 24 [.t 30, .t 31], none⟩,
 ⟨.t 29, .mv (.t 32), none⟩,
 ⟨.t 33, .ext (.t 29) 0, none⟩,
 ⟨.t 34, .ext (.t 29) 1, none⟩,
 ⟨.t 35, .ext (.t 29) 2, none⟩,
 ⟨.l 8, .alloc [.p (.i .i64 0), .p (.s []), .p (.i .i64 0), .p (.i .i64 0)], none⟩,
 ⟨.l 10, .alloc [.p (.i .i64 0), .p (.i .i64 0)], none⟩,
 ⟨.no, .sto 4 (.l 8) (.t 33), none⟩,
 ⟨.l 9, .mv (.t 34), none⟩,
 ⟨.no, .sto 2 (.l 10) (.t 35), none⟩]) (
 .seq (.seq (.reg [
 ⟨.t 36, .fad 0 (.l 10), none⟩,
 ⟨.t 37, .ld false 1 (.t 36), none⟩,
 ⟨.l 38, .bin .neq (.t 37) (.c (.p (.i .i64 0))), none⟩]) (
 .cond (.l 38) (
 .seq (.drw [
 ⟨.t 39, .ld true 2 (.l 10), none⟩,
 ⟨.l 4, .mv (.c (.p (.nl))), none⟩] [
 ⟨.no, .sto 2 (.l 5) (.t 39), none⟩]) (
 .ret)) (
 .skip))) (
 .seq (.seq (.reg [
 ⟨.t 40, .mv (.l 6), none⟩,
 ⟨.t 41, .len false (.t 40), none⟩,
 ⟨.t 42, .mv (.l 1), none⟩,
 ⟨.l 43, .bin .eql (.t 41) (.t 42), none⟩]) (
 .cond (.l 43) (
 .seq (.reg [
 ⟨.t 44, .mv (.l 7), none⟩,
 ⟨.t 45, .build [.p (.i .i64 0), .p (.i .i64 0)] [(0, 1, (.c (.p (.i .i64 5)))), (1, 1, (.t 44))], none⟩,
 ⟨.l 4, .mv (.c (.p (.nl))), none⟩,
 ⟨.no, .sto 2 (.l 5) (.t 45), none⟩]) (
 .ret)) (
 .skip))) (
 .seq (.reg [
 ⟨.t 46, .mv (.l 6), none⟩,
 ⟨.t 47, .ld true 4 (.l 8), none⟩,
 ⟨.t 48, .bsl 4 [.p (.i .i64 0), .p (.s []), .p (.i .i64 0), .p (.i .i64 0)] 1 [(0, (.t 47))], none⟩,
 ⟨.t 49, .app 4 40 (.t 46) (.t 48), none⟩,
 ⟨.l 6, .mv (.t 49), none⟩]) (
 .reg [
 ⟨.t 50, .mv (.l 9), none⟩,
 ⟨.l 7, .mv (.t 50), none⟩]))))))))))) (
 .seq (.reg [
 ⟨.t 51, .mv (.l 6), none⟩,
 ⟨.t 52, .mv (.l 0), none⟩,
 ⟨.t 53, .len true (.t 52), none⟩,
 ⟨.t 54, .build [.p (.i .i64 0), .p (.s []), .p (.i .i64 0), .p (.i .i64 0)] [(0, 1, (.c (.p (.i .i64 8)))), (3, 1, (.t 53))], none⟩,
 ⟨.t 55, .bsl 4 [.p (.i .i64 0), .p (.s []), .p (.i .i64 0), .p (.i .i64 0)] 1 [(0, (.t 54))], none⟩,
 ⟨.t 56, .app 4 40 (.t 51) (.t 55), none⟩,
 ⟨.t 57, .build [.p (.i .i64 0), .p (.i .i64 0)] [], none⟩,
 ⟨.l 4, .mv (.t 56), none⟩,
 ⟨.no, .sto 2 (.l 5) (.t 57), none⟩]) (
 .ret))))
theorem mc11_eq : (Tryd.f11.body.map (compile lv11 Tryd.prog 58)) = some mc11 := by kernel_rfl
def mr11 : List MR := [.t 4, .cell true 2 5]
theorem mr11_eq : cRess lv11 Tryd.prog Tryd.f11.results.toList = some mr11 := by kernel_rfl
theorem call11 {args : List AV} {H : List AO} {Q : AV → List AO → Prop} (hla : args.length ≤ 58) (h : wpm (ACall Tryd.prog) mc11 (finK mr11 Q) ⟨argEnv 0 args, [], H⟩) : ACall Tryd.prog 11 args H Q :=
  acall_mc (by kernel_rfl) Tryd.func11 mc11_eq Tryd.ntmps11 (by kernel_rfl) mr11_eq hla h
/- (*impl.parser).deeper -/
def lv12 : List Nat := [0, 1, 4, 10, 15]
def mc12 : MC :=
.seq (.reg [
 ⟨.l 4, .mv (.c (.p (.b false))), none⟩]) (
 .seq (.seq (.reg [
 ⟨.t 5, .mv (.l 1), none⟩,
 ⟨.t 6, .mv (.l 0), none⟩,
 ⟨.t 7, .nilc (.t 6), none⟩,
 ⟨.t 8, .fad 2 (.t 7), none⟩,
 ⟨.t 9, .ld false 1 (.t 8), none⟩,
 ⟨.l 10, .bin .gtr (.t 5) (.t 9), none⟩]) (
 .cond (.l 10) (
 .reg [
 ⟨.t 11, .mv (.l 0), none⟩,
 ⟨.t 12, .call 21 [.t 11, .c (.p (.i .i64 12))], none⟩]) (
 .skip))) (
 .seq (.seq (.reg [
 ⟨.t 13, .mv (.l 0), none⟩,
 ⟨.t 14, .call 10 [.t 13], none⟩,
 ⟨.l 15, .un .not (.t 14), none⟩]) (
 .cond (.l 15) (
 .reg [
 ⟨.t 16, .mv (.l 0), none⟩,
 ⟨.t 17, .mv (.l 0), none⟩,
 ⟨.t 18, .nilc (.t 17), none⟩,
 ⟨.t 19, .fad 3 (.t 18), none⟩,
 ⟨.t 20, .ld false 1 (.t 19), none⟩,
 ⟨.t 21, .mv (.l 1), none⟩,
 ⟨.t 22, .mnx true (.t 20) (.t 21), none⟩,
 ⟨.t 23, .nilc (.t 16), none⟩,
 ⟨.t 24, .fad 3 (.t 23), none⟩,
 ⟨.no, .sto 1 (.t 24) (.t 22), none⟩]) (
 .skip))) (
 .seq (.reg [
 ⟨.t 25, .mv (.l 0), none⟩,
 ⟨.t 26, .call 10 [.t 25], none⟩,
 ⟨.t 27, .un .not (.t 26), none⟩,
 ⟨.l 4, .mv (.t 27), none⟩]) (
 .ret))))
theorem mc12_eq : (Tryd.f12.body.map (compile lv12 Tryd.prog 28)) = some mc12 := by kernel_rfl
def mr12 : List MR := [.t 4]
theorem mr12_eq : cRess lv12 Tryd.prog Tryd.f12.results.toList = some mr12 := by kernel_rfl
theorem call12 {args : List AV} {H : List AO} {Q : AV → List AO → Prop} (hla : args.length ≤ 28) (h : wpm (ACall Tryd.prog) mc12 (finK mr12 Q) ⟨argEnv 0 args, [], H⟩) : ACall Tryd.prog 12 args H Q :=
  acall_mc (by kernel_rfl) Tryd.func12 mc12_eq Tryd.ntmps12 (by kernel_rfl) mr12_eq hla h
/- (*impl.parser).next -/
def lv13 : List Nat := [0, 2]
def mc13 : MC :=
.seq (.reg [
 ⟨.l 2, .alloc [.p (.i .i64 0), .p (.s []), .p (.i .i64 0), .p (.i .i64 0)], none⟩]) (
 .seq (.drw [
 ⟨.t 3, .mv (.l 0), none⟩,
 ⟨.t 4, .nilc (.t 3), none⟩,
 ⟨.t 5, .fad 0 (.t 4), none⟩,
 ⟨.t 6, .ld false 1 (.t 5), none⟩,
 ⟨.t 7, .mv (.l 0), none⟩,
 ⟨.t 8, .nilc (.t 7), none⟩,
 ⟨.t 9, .fad 1 (.t 8), none⟩,
 ⟨.t 10, .ld false 1 (.t 9), none⟩] [
 ⟨.t 11, .ixs 4 (.t 6) (.t 10), none⟩,
 ⟨.t 12, .ld true 4 (.t 11), none⟩,
 ⟨.no, .sto 4 (.l 2) (.t 12), none⟩]) (
 .ret))
theorem mc13_eq : (Tryd.f13.body.map (compile lv13 Tryd.prog 13)) = some mc13 := by kernel_rfl
def mr13 : List MR := [.cell true 4 2]
theorem mr13_eq : cRess lv13 Tryd.prog Tryd.f13.results.toList = some mr13 := by kernel_rfl
theorem call13 {args : List AV} {H : List AO} {Q : AV → List AO → Prop} (hla : args.length ≤ 13) (h : wpm (ACall Tryd.prog) mc13 (finK mr13 Q) ⟨argEnv 0 args, [], H⟩) : ACall Tryd.prog 13 args H Q :=
  acall_mc (by kernel_rfl) Tryd.func13 mc13_eq Tryd.ntmps13 (by kernel_rfl) mr13_eq hla h
/- (*impl.parser).take -/
def lv15 : List Nat := [0, 1, 4, 8]
def mc15 : MC :=
.seq (.reg [
 ⟨.l 4, .mv (.c (.p (.b false))), none⟩]) (
 .seq (.seq (.reg [
 ⟨.t 5, .mv (.l 0), none⟩,
 ⟨.t 6, .mv (.l 1), none⟩,
 ⟨.t 7, .call 25 [.t 5, .t 6], none⟩,
 ⟨.l 8, .un .not (.t 7), none⟩]) (
 .cond (.l 8) (
 .seq (.reg [
 ⟨.l 4, .mv (.c (.p (.b false))), none⟩]) (
 .ret)) (
 .skip))) (
 .seq (.reg [
 ⟨.t 9, .mv (.l 0), none⟩,
 ⟨.t 10, .nilc (.t 9), none⟩,
 ⟨.t 11, .fad 1 (.t 10), none⟩,
 ⟨.t 12, .ld false 1 (.t 11), none⟩,
 ⟨.t 13, .bin .add (.t 12) (.c (.p (.i .i64 1))), none⟩,
 ⟨.t 14, .nilc (.t 9), none⟩,
 ⟨.t 15, .fad 1 (.t 14), none⟩,
 ⟨.no, .sto 1 (.t 15) (.t 13), none⟩]) (
 .seq (.reg [
 ⟨.l 4, .mv (.c (.p (.b true))), none⟩]) (
 .ret))))
theorem mc15_eq : (Tryd.f15.body.map (compile lv15 Tryd.prog 16)) = some mc15 := by kernel_rfl
def mr15 : List MR := [.t 4]
theorem mr15_eq : cRess lv15 Tryd.prog Tryd.f15.results.toList = some mr15 := by kernel_rfl
theorem call15 {args : List AV} {H : List AO} {Q : AV → List AO → Prop} (hla : args.length ≤ 16) (h : wpm (ACall Tryd.prog) mc15 (finK mr15 Q) ⟨argEnv 0 args, [], H⟩) : ACall Tryd.prog 15 args H Q :=
  acall_mc (by kernel_rfl) Tryd.func15 mc15_eq Tryd.ntmps15 (by kernel_rfl) mr15_eq hla h
/- (*impl.parser).want -/
def lv17 : List Nat := [0, 1, 5, 6, 7, 8, 9, 15]
def mc17 : MC :=
.seq (.reg [
 ⟨.l 6, .mv (.l 1), none⟩,
 ⟨.l 7, .len false (.l 6), none⟩,
 ⟨.l 8, .mv (.c (.p (.i .i64 0))), none⟩]) (
 .blk 0 (
 .loop (
 .seq (.reg [
 ⟨.l 9, .bin .lss (.l 8) (.l 7), none⟩]) (
 .seq (.cond (.l 9) (
 .skip) (
 .exit 0)) (
 .seq (.blk 1 (
 .seq (.reg [
 ⟨.t 10, .ixs 1 (.l 6) (.l 8), none⟩,
 ⟨.t 11, .ld false 1 (.t 10), none⟩,
 ⟨.l 5, .mv (.t 11), none⟩]) (
 .seq (.reg [
 ⟨.t 12, .mv (.l 0), none⟩,
 ⟨.t 13, .mv (.l 5), none⟩,
 ⟨.t 14, .call 15 [.t 12, .t 13], none⟩,
 ⟨.l 15, .un .not (.t 14), none⟩]) (
 .cond (.l 15) (
 .reg [
 ⟨.t 16, .mv (.l 0), none⟩,
 ⟨.t 17, .call 21 [.t 16, .c (.p (.i .i64 11))], none⟩]) (
 .skip))))) (
 .reg [
 ⟨.t 18, .bin .add (.l 8) (.c (.p (.i .i64 1))), none⟩,
 ⟨.l 8, .mv (.t 18), none⟩]))))))
theorem mc17_eq : (Tryd.f17.body.map (compile lv17 Tryd.prog 19)) = some mc17 := by kernel_rfl
def mr17 : List MR := []
theorem mr17_eq : cRess lv17 Tryd.prog Tryd.f17.results.toList = some mr17 := by kernel_rfl
theorem call17 {args : List AV} {H : List AO} {Q : AV → List AO → Prop} (hla : args.length ≤ 19) (h : wpm (ACall Tryd.prog) mc17 (finK mr17 Q) ⟨argEnv 0 args, [], H⟩) : ACall Tryd.prog 17 args H Q :=
  acall_mc (by kernel_rfl) Tryd.func17 mc17_eq Tryd.ntmps17 (by kernel_rfl) mr17_eq hla h
/- (*impl.parser).once -/
def lv19 : List Nat := [0, 1, 2, 3, 5, 6, 7, 8, 9, 10, 12, 18, 27, 28, 29, 30, 35]
def mc19 : MC :=
.seq (.reg [
 ⟨.l 3, .box 1 (.l 0), none⟩,
 ⟨.l 5, .box 1 (.l 2), none⟩,
 ⟨.l 6, .alloc zl3_0, none⟩]) (
 .seq (.reg [
 ⟨.t 13, .bsl 1 [.p (.s [])] 1 [(0, (.c (.p (.s [58, 61]))))], none⟩,
 ⟨.t 14, .bsl 1 [.p (.s [])] 2 [(0, (.c (.p (.s [61])))), (1, (.c (.p (.s [60]))))], none⟩,
 ⟨.t 15, .bsl 1 [.p (.nl)] 2 [(0, (.t 13)), (1, (.t 14))], none⟩,
 ⟨.l 7, .mv (.t 15), none⟩]) (
 .seq (.reg [
 ⟨.t 16, .mkf 27 [.l 3, .l 5], none⟩,
 ⟨.l 8, .mv (.t 16), none⟩]) (
 .seq (.seq (.reg [
 ⟨.t 17, .mv (.l 1), none⟩,
 ⟨.l 18, .bin .eql (.t 17) (.c (.p (.i .i64 0))), none⟩]) (
 .cond (.l 18) (
 .reg [
 ⟨.t 19, .mkf 29 [.l 3, .l 5], none⟩,
 ⟨.l 8, .mv (.t 19), none⟩]) (
 .skip))) (
 .seq (.reg [
 ⟨.t 20, .mv (.l 8), none⟩,
 ⟨.t 21, .calv (.t 20) [], none⟩,
 ⟨.l 9, .alloc zl3_0, none⟩,
 ⟨.no, .sto 7 (.l 9) (.t 21), none⟩]) (
 .seq (.reg [
 ⟨.t 22, .ld false 1 (.l 3), none⟩,
 ⟨.t 23, .call 13 [.t 22], none⟩,
 ⟨.l 10, .alloc [.p (.i .i64 0), .p (.s []), .p (.i .i64 0), .p (.i .i64 0)], none⟩,
 ⟨.no, .sto 4 (.l 10) (.t 23), none⟩]) (
 .seq (.seq (.reg [
 ⟨.t 24, .mv (.l 7), none⟩,
 ⟨.t 25, .mv (.l 1), none⟩,
 ⟨.t 26, .ixs 1 (.t 24) (.t 25), none⟩,
 ⟨.l 27, .ld false 1 (.t 26), none⟩,
 ⟨.l 28, .len false (.l 27), none⟩,
 ⟨.l 29, .mv (.c (.p (.i .i64 0))), none⟩]) (
 .blk 0 (
 .loop (
 .seq (.reg [
 ⟨.l 30, .bin .lss (.l 29) (.l 28), none⟩]) (
 .seq (.cond (.l 30) (
 .skip) (
 .exit 0)) (
 .seq (.blk 1 (
 .seq (.reg [
 ⟨.t 31, .ixs 1 (.l 27) (.l 29), none⟩,
 ⟨.t 32, .ld false 1 (.t 31), none⟩,
 ⟨.l 12, .mv (.t 32), none⟩]) (
 .seq (.reg [
 ⟨.t 33, .ld false 1 (.l 3), none⟩,
 ⟨.t 34, .mv (.l 12), none⟩,
 ⟨.l 35, .call 15 [.t 33, .t 34], none⟩]) (
 .cond (.l 35) (
 .seq (.drw [
 ⟨.t 36, .mv (.l 12), none⟩,
 ⟨.t 37, .fad 3 (.l 10), none⟩,
 ⟨.t 38, .ld false 1 (.t 37), none⟩,
 ⟨.t 39, .ld true 7 (.l 9), none⟩,
 ⟨.t 40, .mv (.l 8), none⟩,
 ⟨.t 41, .calv (.t 40) [], none⟩,
 ⟨.t 42, .bsl 7 zl3_0 2 [(0, (.t 39)), (1, (.t 41))], none⟩] [
 ⟨.t 43, .build zl3_0 [(0, 1, (.c (.p (.i .i64 14)))), (1, 1, (.t 36)), (4, 1, (.t 38)), (5, 1, (.t 42))], none⟩,
 ⟨.no, .sto 7 (.l 6) (.t 43), none⟩]) (
 .ret)) (
 .skip))))) (
 .reg [
 ⟨.t 44, .bin .add (.l 29) (.c (.p (.i .i64 1))), none⟩,
 ⟨.l 29, .mv (.t 44), none⟩]))))))) (
 .seq (.reg [
 ⟨.t 45, .ld true 7 (.l 9), none⟩,
 ⟨.no, .sto 7 (.l 6) (.t 45), none⟩]) (
 .ret))))))))
theorem mc19_eq : (Tryd.f19.body.map (compile lv19 Tryd.prog 46)) = some mc19 := by kernel_rfl
def mr19 : List MR := [.cell true 7 6]
theorem mr19_eq : cRess lv19 Tryd.prog Tryd.f19.results.toList = some mr19 := by kernel_rfl
theorem call19 {args : List AV} {H : List AO} {Q : AV → List AO → Prop} (hla : args.length ≤ 46) (h : wpm (ACall Tryd.prog) mc19 (finK mr19 Q) ⟨argEnv 0 args, [], H⟩) : ACall Tryd.prog 19 args H Q :=
  acall_mc (by kernel_rfl) Tryd.func19 mc19_eq Tryd.ntmps19 (by kernel_rfl) mr19_eq hla h
/- (*impl.parser).isKind -/
def lv20 : List Nat := [0, 1, 4]
def mc20 : MC :=
.seq (.reg [
 ⟨.l 4, .mv (.c (.p (.b false))), none⟩]) (
 .seq (.reg [
 ⟨.t 5, .mv (.l 0), none⟩,
 ⟨.t 6, .call 10 [.t 5], none⟩,
 ⟨.t 7, .un .not (.t 6), none⟩,
 ⟨.t 8, .mv (.t 7), none⟩,
 ⟨.t 9, .mv (.l 0), some ((.t 8), true)⟩,
 ⟨.t 10, .call 13 [.t 9], some ((.t 8), true)⟩,
 ⟨.t 11, .fld false 0 1 (.t 10), some ((.t 8), true)⟩,
 ⟨.t 12, .mv (.l 1), some ((.t 8), true)⟩,
 ⟨.t 13, .bin .eql (.t 11) (.t 12), some ((.t 8), true)⟩,
 ⟨.t 14, .pick (.t 8) (.t 13) (.c (.p (.b false))), none⟩,
 ⟨.l 4, .mv (.t 14), none⟩]) (
 .ret))
theorem mc20_eq : (Tryd.f20.body.map (compile lv20 Tryd.prog 15)) = some mc20 := by kernel_rfl
def mr20 : List MR := [.t 4]
theorem mr20_eq : cRess lv20 Tryd.prog Tryd.f20.results.toList = some mr20 := by kernel_rfl
theorem call20 {args : List AV} {H : List AO} {Q : AV → List AO → Prop} (hla : args.length ≤ 15) (h : wpm (ACall Tryd.prog) mc20 (finK mr20 Q) ⟨argEnv 0 args, [], H⟩) : ACall Tryd.prog 20 args H Q :=
  acall_mc (by kernel_rfl) Tryd.func20 mc20_eq Tryd.ntmps20 (by kernel_rfl) mr20_eq hla h
/- (*impl.parser).fail -/
def lv21 : List Nat := [0, 1, 9]
def mc21 : MC :=
.seq (.reg [
 ⟨.t 4, .mv (.l 0), none⟩,
 ⟨.t 5, .nilc (.t 4), none⟩,
 ⟨.t 6, .fad 4 (.t 5), none⟩,
 ⟨.t 7, .fad 0 (.t 6), none⟩,
 ⟨.t 8, .ld false 1 (.t 7), none⟩,
 ⟨.l 9, .bin .eql (.t 8) (.c (.p (.i .i64 0))), none⟩]) (
 .cond (.l 9) (
 .reg [
 ⟨.t 10, .mv (.l 0), none⟩,
 ⟨.t 11, .mv (.l 1), none⟩,
 ⟨.t 12, .mv (.l 0), none⟩,
 ⟨.t 13, .call 13 [.t 12], none⟩,
 ⟨.t 14, .fld false 3 1 (.t 13), none⟩,
 ⟨.t 15, .build [.p (.i .i64 0), .p (.i .i64 0)] [(0, 1, (.t 11)), (1, 1, (.t 14))], none⟩,
 ⟨.t 16, .nilc (.t 10), none⟩,
 ⟨.t 17, .fad 4 (.t 16), none⟩,
 ⟨.no, .sto 2 (.t 17) (.t 15), none⟩]) (
 .skip))
theorem mc21_eq : (Tryd.f21.body.map (compile lv21 Tryd.prog 18)) = some mc21 := by kernel_rfl
def mr21 : List MR := []
theorem mr21_eq : cRess lv21 Tryd.prog Tryd.f21.results.toList = some mr21 := by kernel_rfl
theorem call21 {args : List AV} {H : List AO} {Q : AV → List AO → Prop} (hla : args.length ≤ 18) (h : wpm (ACall Tryd.prog) mc21 (finK mr21 Q) ⟨argEnv 0 args, [], H⟩) : ACall Tryd.prog 21 args H Q :=
  acall_mc (by kernel_rfl) Tryd.func21 mc21_eq Tryd.ntmps21 (by kernel_rfl) mr21_eq hla h
/- impl.run -/
def lv22 : List Nat := [0, 1, 2, 6, 17]
def mc22 : MC :=
.seq (.reg [
 ⟨.l 6, .mv (.c (.p (.i .i64 0))), none⟩]) (
 .seq (.blk 0 (
 .loop (
 .seq (.seq (.reg [
 ⟨.t 7, .mv (.l 1), none⟩,
 ⟨.t 8, .mv (.l 0), none⟩,
 ⟨.t 9, .len true (.t 8), none⟩,
 ⟨.t 10, .bin .lss (.t 7) (.t 9), none⟩,
 ⟨.t 11, .mv (.t 10), none⟩,
 ⟨.t 12, .mv (.l 2), some ((.t 11), true)⟩,
 ⟨.t 13, .mv (.l 0), some ((.t 11), true)⟩,
 ⟨.t 14, .mv (.l 1), some ((.t 11), true)⟩,
 ⟨.t 15, .ixt (.t 13) (.t 14), some ((.t 11), true)⟩,
 ⟨.t 16, .calv (.t 12) [.t 15], some ((.t 11), true)⟩,
 ⟨.l 17, .pick (.t 11) (.t 16) (.c (.p (.b false))), none⟩]) (
 .cond (.l 17) (
 .skip) (
 .exit 0))) (
 .blk 1 (
 .reg [
 ⟨.t 18, .mv (.l 1), none⟩,
 ⟨.t 19, .bin .add (.t 18) (.c (.p (.i .i64 1))), none⟩,
 ⟨.l 1, .mv (.t 19), none⟩]))))) (
 .seq (.reg [
 ⟨.t 20, .mv (.l 1), none⟩,
 ⟨.l 6, .mv (.t 20), none⟩]) (
 .ret)))
theorem mc22_eq : (Tryd.f22.body.map (compile lv22 Tryd.prog 21)) = some mc22 := by kernel_rfl
def mr22 : List MR := [.t 6]
theorem mr22_eq : cRess lv22 Tryd.prog Tryd.f22.results.toList = some mr22 := by kernel_rfl
theorem call22 {args : List AV} {H : List AO} {Q : AV → List AO → Prop} (hla : args.length ≤ 21) (h : wpm (ACall Tryd.prog) mc22 (finK mr22 Q) ⟨argEnv 0 args, [], H⟩) : ACall Tryd.prog 22 args H Q :=
  acall_mc (by kernel_rfl) Tryd.func22 mc22_eq Tryd.ntmps22 (by kernel_rfl) mr22_eq hla h
/- impl.lexOne -/
def lv24 : List Nat := [0, 1, 4, 5, 6, 7, 8, 9, 10, 11, 15, 24, 51, 62, 75]
def mc24 : MC :=
.seq (.reg [
 ⟨.l 4, .alloc [.p (.i .i64 0), .p (.s []), .p (.i .i64 0), .p (.i .i64 0)], none⟩,
 ⟨.l 5, .mv (.c (.p (.i .i64 0))), none⟩,
 ⟨.l 6, .alloc [.p (.i .i64 0), .p (.i .i64 0)], none⟩]) (
 .seq (.seq (.reg [
 ⟨.t 12, .mv (.l 0), none⟩,
 ⟨.t 13, .mv (.l 1), none⟩,
 ⟨.t 14, .ixt (.t 12) (.t 13), none⟩,
 ⟨.l 7, .mv (.t 14), none⟩]) (
 .blk 0 (
 .seq (.reg [
 ⟨.t 16, .mv (.l 7), none⟩,
 ⟨.t 17, .call 30 [.t 16], none⟩,
 ⟨.l 15, .mv (.t 17), none⟩]) (
 .cond (.l 15) (
 .seq (.reg [
 ⟨.t 18, .mv (.l 0), none⟩,
 ⟨.t 19, .mv (.l 1), none⟩,
 ⟨.t 20, .call 31 [.t 18, .t 19], none⟩,
 ⟨.t 21, .ext (.t 20) 0, none⟩,
 ⟨.t 22, .ext (.t 20) 1, none⟩,
 ⟨.t 23, .ext (.t 20) 2, none⟩,
 ⟨.no, .sto 4 (.l 4) (.t 21), none⟩,
 ⟨.l 5, .mv (.t 22), none⟩,
 ⟨.no, .sto 2 (.l 6) (.t 23), none⟩]) (
 .ret)) (
 .seq (.seq (.reg [
 ⟨.t 25, .mv (.l 7), none⟩,
 ⟨.t 26, .call 32 [.t 25], none⟩,
 ⟨.l 24, .mv (.t 26), none⟩]) (
 .cond (.l 24) (
 .skip) (
 .seq (.reg [
 ⟨.t 27, .mv (.l 7), none⟩,
 ⟨.t 28, .call 33 [.t 27], none⟩,
 ⟨.l 24, .mv (.t 28), none⟩]) (
 .cond (.l 24) (
 .skip) (
 .reg [
 ⟨.t 29, .mv (.l 7), none⟩,
 ⟨.t 30, .bin .eql (.t 29) (.c (.p (.i .u8 39))), none⟩,
 ⟨.t 31, .mv (.t 30), none⟩,
 ⟨.t 32, .mv (.l 1), some ((.t 31), true)⟩,
 ⟨.t 33, .bin .add (.t 32) (.c (.p (.i .i64 1))), some ((.t 31), true)⟩,
 ⟨.t 34, .mv (.l 0), some ((.t 31), true)⟩,
 ⟨.t 35, .len true (.t 34), some ((.t 31), true)⟩,
 ⟨.t 36, .bin .lss (.t 33) (.t 35), some ((.t 31), true)⟩,
 ⟨.t 37, .pick (.t 31) (.t 36) (.c (.p (.b false))), none⟩,
 ⟨.t 38, .mv (.t 37), none⟩,
 ⟨.t 39, .mv (.l 0), some ((.t 38), true)⟩,
 ⟨.t 40, .mv (.l 1), some ((.t 38), true)⟩,
 ⟨.t 41, .bin .add (.t 40) (.c (.p (.i .i64 1))), some ((.t 38), true)⟩,
 ⟨.t 42, .ixt (.t 39) (.t 41), some ((.t 38), true)⟩,
 ⟨.t 43, .call 32 [.t 42], some ((.t 38), true)⟩,
 ⟨.t 44, .pick (.t 38) (.t 43) (.c (.p (.b false))), none⟩,
 ⟨.l 24, .mv (.t 44), none⟩]))))) (
 .cond (.l 24) (
 .seq (.reg [
 ⟨.t 45, .mv (.l 0), none⟩,
 ⟨.t 46, .mv (.l 1), none⟩,
 ⟨.t 47, .call 34 [.t 45, .t 46], none⟩,
 ⟨.t 48, .ext (.t 47) 0, none⟩,
 ⟨.t 49, .ext (.t 47) 1, none⟩,
 ⟨.t 50, .ext (.t 47) 2, none⟩,
 ⟨.no, .sto 4 (.l 4) (.t 48), none⟩,
 ⟨.l 5, .mv (.t 49), none⟩,
 ⟨.no, .sto 2 (.l 6) (.t 50), none⟩]) (
 .ret)) (
 .seq (.reg [
 ⟨.t 52, .mv (.l 7), none⟩,
 ⟨.t 53, .bin .eql (.t 52) (.c (.p (.i .u8 34))), none⟩,
 ⟨.l 51, .mv (.t 53), none⟩]) (
 .cond (.l 51) (
 .seq (.reg [
 ⟨.t 55, .mv (.l 0), none⟩,
 ⟨.t 56, .mv (.l 1), none⟩,
 ⟨.t 57, .call 35 [.t 55, .t 56], none⟩,
 ⟨.t 54, .mv (.t 57), none⟩,
 ⟨.t 58, .ext (.t 54) 0, none⟩,
 ⟨.t 59, .ext (.t 54) 1, none⟩,
 ⟨.t 60, .ext (.t 54) 2, none⟩,
 ⟨.l 8, .mv (.t 58), none⟩,
 ⟨.l 9, .mv (.t 59), none⟩,
 ⟨.l 10, .mv (.t 60), none⟩]) (
 .seq (.seq (.reg [
 ⟨.t 61, .mv (.l 10), none⟩,
 ⟨.l 62, .un .not (.t 61), none⟩]) (
 .cond (.l 62) (
 .seq (.reg [
 ⟨.t 63, .build [.p (.i .i64 0), .p (.s []), .p (.i .i64 0), .p (.i .i64 0)] [], none⟩,
 ⟨.t 64, .mv (.l 1), none⟩,
 ⟨.t 65, .build [.p (.i .i64 0), .p (.i .i64 0)] [(0, 1, (.c (.p (.i .i64 4)))), (1, 1, (.t 64))], none⟩,
 ⟨.no, .sto 4 (.l 4) (.t 63), none⟩,
 ⟨.l 5, .mv (.c (.p (.i .i64 0))), none⟩,
 ⟨.no, .sto 2 (.l 6) (.t 65), none⟩]) (
 .ret)) (
 .skip))) (
 .seq (.reg [
 ⟨.t 66, .mv (.l 8), none⟩,
 ⟨.t 67, .mv (.l 1), none⟩,
 ⟨.t 68, .build [.p (.i .i64 0), .p (.s []), .p (.i .i64 0), .p (.i .i64 0)] [(0, 1, (.c (.p (.i .i64 2)))), (1, 1, (.t 66)), (3, 1, (.t 67))], none⟩,
 ⟨.t 69, .mv (.l 9), none⟩,
 ⟨.t 70, .build [.p (.i .i64 0), .p (.i .i64 0)] [], none⟩,
 ⟨.no, .sto 4 (.l 4) (.t 68), none⟩,
 ⟨.l 5, .mv (.t 69), none⟩,
 ⟨.no, .sto 2 (.l 6) (.t 70), none⟩]) (
 .ret)))) (
 .skip))))))))) (
 .seq (.reg [
 ⟨.t 71, .mv (.l 0), none⟩,
 ⟨.t 72, .mv (.l 1), none⟩,
 ⟨.t 73, .call 36 [.t 71, .t 72], none⟩,
 ⟨.l 11, .mv (.t 73), none⟩]) (
 .seq (.seq (.reg [
 ⟨.t 74, .mv (.l 11), none⟩,
 ⟨.l 75, .bin .eql (.t 74) (.c (.p (.s []))), none⟩]) (
 .cond (.l 75) (
 .seq (.reg [
 ⟨.t 76, .build [.p (.i .i64 0), .p (.s []), .p (.i .i64 0), .p (.i .i64 0)] [], none⟩,
 ⟨.t 77, .mv (.l 1), none⟩,
 ⟨.t 78, .build [.p (.i .i64 0), .p (.i .i64 0)] [(0, 1, (.c (.p (.i .i64 1)))), (1, 1, (.t 77))], none⟩,
 ⟨.no, .sto 4 (.l 4) (.t 76), none⟩,
 ⟨.l 5, .mv (.c (.p (.i .i64 0))), none⟩,
 ⟨.no, .sto 2 (.l 6) (.t 78), none⟩]) (
 .ret)) (
 .skip))) (
 .seq (.reg [
 ⟨.t 79, .mv (.l 11), none⟩,
 ⟨.t 80, .mv (.l 1), none⟩,
 ⟨.t 81, .build [.p (.i .i64 0), .p (.s []), .p (.i .i64 0), .p (.i .i64 0)] [(0, 1, (.c (.p (.i .i64 7)))), (1, 1, (.t 79)), (3, 1, (.t 80))], none⟩,
 ⟨.t 82, .mv (.l 1), none⟩,
 ⟨.t 83, .mv (.l 11), none⟩,
 ⟨.t 84, .len true (.t 83), none⟩,
 ⟨.t 85, .bin .add (.t 82) (.t 84), none⟩,
 ⟨.t 86, .build [.p (.i .i64 0), .p (.i .i64 0)] [], none⟩,
 ⟨.no, .sto 4 (.l 4) (.t 81), none⟩,
 ⟨.l 5, .mv (.t 85), none⟩,
 ⟨.no, .sto 2 (.l 6) (.t 86), none⟩]) (
 .ret)))))
theorem mc24_eq : (Tryd.f24.body.map (compile lv24 Tryd.prog 87)) = some mc24 := by kernel_rfl
def mr24 : List MR := [.cell true 4 4, .t 5, .cell true 2 6]
theorem mr24_eq : cRess lv24 Tryd.prog Tryd.f24.results.toList = some mr24 := by kernel_rfl
theorem call24 {args : List AV} {H : List AO} {Q : AV → List AO → Prop} (hla : args.length ≤ 87) (h : wpm (ACall Tryd.prog) mc24 (finK mr24 Q) ⟨argEnv 0 args, [], H⟩) : ACall Tryd.prog 24 args H Q :=
  acall_mc (by kernel_rfl) Tryd.func24 mc24_eq Tryd.ntmps24 (by kernel_rfl) mr24_eq hla h
/- (*impl.parser).is -/
def lv25 : List Nat := [0, 1, 4, 5]
def mc25 : MC :=
.seq (.reg [
 ⟨.l 4, .mv (.c (.p (.b false))), none⟩]) (
 .seq (.reg [
 ⟨.t 6, .mv (.l 0), none⟩,
 ⟨.t 7, .call 13 [.t 6], none⟩,
 ⟨.l 5, .alloc [.p (.i .i64 0), .p (.s []), .p (.i .i64 0), .p (.i .i64 0)], none⟩,
 ⟨.no, .sto 4 (.l 5) (.t 7), none⟩]) (
 .seq (.reg [
 ⟨.t 8, .mv (.l 0), none⟩,
 ⟨.t 9, .call 10 [.t 8], none⟩,
 ⟨.t 10, .un .not (.t 9), none⟩,
 ⟨.t 11, .mv (.t 10), none⟩,
 ⟨.t 12, .fad 0 (.l 5), some ((.t 11), true)⟩,
 ⟨.t 13, .ld false 1 (.t 12), some ((.t 11), true)⟩,
 ⟨.t 14, .bin .eql (.t 13) (.c (.p (.i .i64 6))), some ((.t 11), true)⟩,
 ⟨.t 15, .mv (.t 14), some ((.t 11), true)⟩,
 ⟨.t 16, .fad 0 (.l 5), some ((.t 15), false)⟩,
 ⟨.t 17, .ld false 1 (.t 16), some ((.t 15), false)⟩,
 ⟨.t 18, .bin .eql (.t 17) (.c (.p (.i .i64 7))), some ((.t 15), false)⟩,
 ⟨.t 19, .pick (.t 15) (.c (.p (.b true))) (.t 18), some ((.t 11), true)⟩,
 ⟨.t 20, .pick (.t 11) (.t 19) (.c (.p (.b false))), none⟩,
 ⟨.t 21, .mv (.t 20), none⟩,
 ⟨.t 22, .fad 1 (.l 5), some ((.t 21), true)⟩,
 ⟨.t 23, .ld false 1 (.t 22), some ((.t 21), true)⟩,
 ⟨.t 24, .mv (.l 1), some ((.t 21), true)⟩,
 ⟨.t 25, .bin .eql (.t 23) (.t 24), some ((.t 21), true)⟩,
 ⟨.t 26, .pick (.t 21) (.t 25) (.c (.p (.b false))), none⟩,
 ⟨.l 4, .mv (.t 26), none⟩]) (
 .ret)))
theorem mc25_eq : (Tryd.f25.body.map (compile lv25 Tryd.prog 27)) = some mc25 := by kernel_rfl
def mr25 : List MR := [.t 4]
theorem mr25_eq : cRess lv25 Tryd.prog Tryd.f25.results.toList = some mr25 := by kernel_rfl
theorem call25 {args : List AV} {H : List AO} {Q : AV → List AO → Prop} (hla : args.length ≤ 27) (h : wpm (ACall Tryd.prog) mc25 (finK mr25 Q) ⟨argEnv 0 args, [], H⟩) : ACall Tryd.prog 25 args H Q :=
  acall_mc (by kernel_rfl) Tryd.func25 mc25_eq Tryd.ntmps25 (by kernel_rfl) mr25_eq hla h
/- (*impl.parser).once$1 -/
def lv27 : List Nat := [0, 1, 2]
def mc27 : MC :=
.seq (.reg [
 ⟨.l 2, .alloc zl3_0, none⟩]) (
 .seq (.reg [
 ⟨.t 3, .ld false 1 (.l 0), none⟩,
 ⟨.t 4, .ld false 1 (.l 1), none⟩,
 ⟨.t 5, .call 28 [.t 3, .c (.p (.i .i64 0)), .t 4], none⟩,
 ⟨.no, .sto 7 (.l 2) (.t 5), none⟩]) (
 .ret))
theorem mc27_eq : (Tryd.f27.body.map (compile lv27 Tryd.prog 6)) = some mc27 := by kernel_rfl
def mr27 : List MR := [.cell true 7 2]
theorem mr27_eq : cRess lv27 Tryd.prog Tryd.f27.results.toList = some mr27 := by kernel_rfl
theorem call27 {args : List AV} {H : List AO} {Q : AV → List AO → Prop} (hla : args.length ≤ 6) (h : wpm (ACall Tryd.prog) mc27 (finK mr27 Q) ⟨argEnv 0 args, [], H⟩) : ACall Tryd.prog 27 args H Q :=
  acall_mc (by kernel_rfl) Tryd.func27 mc27_eq Tryd.ntmps27 (by kernel_rfl) mr27_eq hla h
/- (*impl.parser).row -/
def lv28 : List Nat := [0, 1, 2, 3, 5, 6, 7, 8, 9, 10, 16, 31]
def mc28 : MC :=
.seq (.reg [
 ⟨.l 3, .box 1 (.l 0), none⟩,
 ⟨.l 5, .box 1 (.l 2), none⟩,
 ⟨.l 6, .alloc zl3_0, none⟩]) (
 .seq (.reg [
 ⟨.t 11, .bsl 1 [.p (.s [])] 3 [(0, (.c (.p (.s [43])))), (1, (.c (.p (.s [45])))), (2, (.c (.p (.s [94]))))], none⟩,
 ⟨.t 12, .bsl 1 [.p (.s [])] 1 [(0, (.c (.p (.s [42]))))], none⟩,
 ⟨.t 13, .bsl 1 [.p (.nl)] 2 [(0, (.t 11)), (1, (.t 12))], none⟩,
 ⟨.l 7, .mv (.t 13), none⟩]) (
 .seq (.reg [
 ⟨.t 14, .mkf 38 [.l 3, .l 5], none⟩,
 ⟨.l 8, .mv (.t 14), none⟩]) (
 .seq (.seq (.reg [
 ⟨.t 15, .mv (.l 1), none⟩,
 ⟨.l 16, .bin .eql (.t 15) (.c (.p (.i .i64 0))), none⟩]) (
 .cond (.l 16) (
 .reg [
 ⟨.t 17, .mkf 40 [.l 3, .l 5], none⟩,
 ⟨.l 8, .mv (.t 17), none⟩]) (
 .skip))) (
 .seq (.reg [
 ⟨.t 18, .mv (.l 8), none⟩,
 ⟨.t 19, .calv (.t 18) [], none⟩,
 ⟨.l 9, .alloc zl3_0, none⟩,
 ⟨.no, .sto 7 (.l 9) (.t 19), none⟩]) (
 .seq (.blk 0 (
 .loop (
 .seq (.seq (.drw [
 ⟨.t 20, .ld false 1 (.l 3), none⟩,
 ⟨.t 21, .call 20 [.t 20, .c (.p (.i .i64 7))], none⟩,
 ⟨.t 22, .mv (.t 21), none⟩,
 ⟨.t 23, .mv (.l 7), some ((.t 22), true)⟩,
 ⟨.t 24, .mv (.l 1), some ((.t 22), true)⟩,
 ⟨.t 25, .ixs 1 (.t 23) (.t 24), some ((.t 22), true)⟩,
 ⟨.t 26, .ld false 1 (.t 25), some ((.t 22), true)⟩,
 ⟨.t 27, .ld false 1 (.l 3), some ((.t 22), true)⟩,
 ⟨.t 28, .call 13 [.t 27], some ((.t 22), true)⟩,
 ⟨.t 29, .fld false 1 1 (.t 28), some ((.t 22), true)⟩] [
 ⟨.t 30, .call 41 [.t 26, .t 29], some ((.t 22), true)⟩,
 ⟨.l 31, .pick (.t 22) (.t 30) (.c (.p (.b false))), none⟩]) (
 .cond (.l 31) (
 .skip) (
 .exit 0))) (
 .blk 1 (
 .seq (.reg [
 ⟨.t 32, .ld false 1 (.l 3), none⟩,
 ⟨.t 33, .call 13 [.t 32], none⟩,
 ⟨.l 10, .alloc [.p (.i .i64 0), .p (.s []), .p (.i .i64 0), .p (.i .i64 0)], none⟩,
 ⟨.no, .sto 4 (.l 10) (.t 33), none⟩]) (
 .seq (.reg [
 ⟨.t 34, .ld false 1 (.l 3), none⟩,
 ⟨.t 35, .nilc (.t 34), none⟩,
 ⟨.t 36, .fad 1 (.t 35), none⟩,
 ⟨.t 37, .ld false 1 (.t 36), none⟩,
 ⟨.t 38, .bin .add (.t 37) (.c (.p (.i .i64 1))), none⟩,
 ⟨.t 39, .nilc (.t 34), none⟩,
 ⟨.t 40, .fad 1 (.t 39), none⟩,
 ⟨.no, .sto 1 (.t 40) (.t 38), none⟩]) (
 .drw [
 ⟨.t 41, .fad 1 (.l 10), none⟩,
 ⟨.t 42, .ld false 1 (.t 41), none⟩,
 ⟨.t 43, .fad 3 (.l 10), none⟩,
 ⟨.t 44, .ld false 1 (.t 43), none⟩,
 ⟨.t 45, .ld true 7 (.l 9), none⟩,
 ⟨.t 46, .mv (.l 8), none⟩,
 ⟨.t 47, .calv (.t 46) [], none⟩,
 ⟨.t 48, .bsl 7 zl3_0 2 [(0, (.t 45)), (1, (.t 47))], none⟩] [
 ⟨.t 49, .build zl3_0 [(0, 1, (.c (.p (.i .i64 14)))), (1, 1, (.t 42)), (4, 1, (.t 44)), (5, 1, (.t 48))], none⟩,
 ⟨.no, .sto 7 (.l 9) (.t 49), none⟩]))))))) (
 .seq (.reg [
 ⟨.t 50, .ld true 7 (.l 9), none⟩,
 ⟨.no, .sto 7 (.l 6) (.t 50), none⟩]) (
 .ret)))))))
theorem mc28_eq : (Tryd.f28.body.map (compile lv28 Tryd.prog 51)) = some mc28 := by kernel_rfl
def mr28 : List MR := [.cell true 7 6]
theorem mr28_eq : cRess lv28 Tryd.prog Tryd.f28.results.toList = some mr28 := by kernel_rfl
theorem call28 {args : List AV} {H : List AO} {Q : AV → List AO → Prop} (hla : args.length ≤ 51) (h : wpm (ACall Tryd.prog) mc28 (finK mr28 Q) ⟨argEnv 0 args, [], H⟩) : ACall Tryd.prog 28 args H Q :=
  acall_mc (by kernel_rfl) Tryd.func28 mc28_eq Tryd.ntmps28 (by kernel_rfl) mr28_eq hla h
/- (*impl.parser).once$2 -/
def lv29 : List Nat := [0, 1, 2]
def mc29 : MC :=
.seq (.reg [
 ⟨.l 2, .alloc zl3_0, none⟩]) (
 .seq (.reg [
 ⟨.t 3, .ld false 1 (.l 0), none⟩,
 ⟨.t 4, .ld false 1 (.l 1), none⟩,
 ⟨.t 5, .call 19 [.t 3, .c (.p (.i .i64 1)), .t 4], none⟩,
 ⟨.no, .sto 7 (.l 2) (.t 5), none⟩]) (
 .ret))
theorem mc29_eq : (Tryd.f29.body.map (compile lv29 Tryd.prog 6)) = some mc29 := by kernel_rfl
def mr29 : List MR := [.cell true 7 2]
theorem mr29_eq : cRess lv29 Tryd.prog Tryd.f29.results.toList = some mr29 := by kernel_rfl
theorem call29 {args : List AV} {H : List AO} {Q : AV → List AO → Prop} (hla : args.length ≤ 6) (h : wpm (ACall Tryd.prog) mc29 (finK mr29 Q) ⟨argEnv 0 args, [], H⟩) : ACall Tryd.prog 29 args H Q :=
  acall_mc (by kernel_rfl) Tryd.func29 mc29_eq Tryd.ntmps29 (by kernel_rfl) mr29_eq hla h
/- impl.digit -/
def lv30 : List Nat := [0, 2]
def mc30 : MC :=
.seq (.reg [
 ⟨.l 2, .mv (.c (.p (.b false))), none⟩]) (
 .seq (.reg [
 ⟨.t 3, .mv (.l 0), none⟩,
 ⟨.t 4, .bin .geq (.t 3) (.c (.p (.i .u8 48))), none⟩,
 ⟨.t 5, .mv (.t 4), none⟩,
 ⟨.t 6, .mv (.l 0), some ((.t 5), true)⟩,
 ⟨.t 7, .bin .leq (.t 6) (.c (.p (.i .u8 57))), some ((.t 5), true)⟩,
 ⟨.t 8, .pick (.t 5) (.t 7) (.c (.p (.b false))), none⟩,
 ⟨.l 2, .mv (.t 8), none⟩]) (
 .ret))
theorem mc30_eq : (Tryd.f30.body.map (compile lv30 Tryd.prog 9)) = some mc30 := by kernel_rfl
def mr30 : List MR := [.t 2]
theorem mr30_eq : cRess lv30 Tryd.prog Tryd.f30.results.toList = some mr30 := by kernel_rfl
theorem call30 {args : List AV} {H : List AO} {Q : AV → List AO → Prop} (hla : args.length ≤ 9) (h : wpm (ACall Tryd.prog) mc30 (finK mr30 Q) ⟨argEnv 0 args, [], H⟩) : ACall Tryd.prog 30 args H Q :=
  acall_mc (by kernel_rfl) Tryd.func30 mc30_eq Tryd.ntmps30 (by kernel_rfl) mr30_eq hla h
/- impl.lexNum -/
def lv31 : List Nat := [0, 1, 4, 5, 6, 7, 8, 9, 34]
def mc31 : MC :=
.seq (.reg [
 ⟨.l 4, .alloc [.p (.i .i64 0), .p (.s []), .p (.i .i64 0), .p (.i .i64 0)], none⟩,
 ⟨.l 5, .mv (.c (.p (.i .i64 0))), none⟩,
 ⟨.l 6, .alloc [.p (.i .i64 0), .p (.i .i64 0)], none⟩]) (
 .seq (.reg [
 ⟨.t 10, .mv (.l 0), none⟩,
 ⟨.t 11, .mv (.l 1), none⟩,
 ⟨.t 12, .call 22 [.t 10, .t 11, .c (.clo 30 [])], none⟩,
 ⟨.l 7, .mv (.t 12), none⟩]) (
 .seq (.reg [
 ⟨.t 14, .mv (.l 0), none⟩,
 ⟨.t 15, .mv (.l 1), none⟩,
 ⟨.t 16, .mv (.l 7), none⟩,
 ⟨.t 17, .slc none (.t 14) (some (.t 15)) (some (.t 16)), none⟩,
 ⟨.t 18, .call 42 [.t 17], none⟩,
 ⟨.t 13, .mv (.t 18), none⟩,
 ⟨.t 19, .ext (.t 13) 0, none⟩,
 ⟨.t 20, .ext (.t 13) 1, none⟩,
 ⟨.l 8, .mv (.t 19), none⟩,
 ⟨.l 9, .mv (.t 20), none⟩]) (
 .seq (.seq (.reg [
 ⟨.t 21, .mv (.l 9), none⟩,
 ⟨.t 22, .nii true (.t 21), none⟩,
 ⟨.t 23, .mv (.t 22), none⟩,
 ⟨.t 24, .mv (.l 7), some ((.t 23), false)⟩,
 ⟨.t 25, .mv (.l 1), some ((.t 23), false)⟩,
 ⟨.t 26, .bin .sub (.t 24) (.t 25), some ((.t 23), false)⟩,
 ⟨.t 27, .bin .gtr (.t 26) (.c (.p (.i .i64 1))), some ((.t 23), false)⟩,
 ⟨.t 28, .mv (.t 27), some ((.t 23), false)⟩,
 ⟨.t 29, .mv (.l 0), some ((.t 28), true)⟩,
 ⟨.t 30, .mv (.l 1), some ((.t 28), true)⟩,
 ⟨.t 31, .ixt (.t 29) (.t 30), some ((.t 28), true)⟩,
 ⟨.t 32, .bin .eql (.t 31) (.c (.p (.i .u8 48))), some ((.t 28), true)⟩,
 ⟨.t 33, .pick (.t 28) (.t 32) (.c (.p (.b false))), some ((.t 23), false)⟩,
 ⟨.l 34, .pick (.t 23) (.c (.p (.b true))) (.t 33), none⟩]) (
 .cond (.l 34) (
 .seq (.reg [
 ⟨.t 35, .build [.p (.i .i64 0), .p (.s []), .p (.i .i64 0), .p (.i .i64 0)] [], none⟩,
 ⟨.t 36, .mv (.l 1), none⟩,
 ⟨.t 37, .build [.p (.i .i64 0), .p (.i .i64 0)] [(0, 1, (.c (.p (.i .i64 3)))), (1, 1, (.t 36))], none⟩,
 ⟨.no, .sto 4 (.l 4) (.t 35), none⟩,
 ⟨.l 5, .mv (.c (.p (.i .i64 0))), none⟩,
 ⟨.no, .sto 2 (.l 6) (.t 37), none⟩]) (
 .ret)) (
 .skip))) (
 .seq (.reg [
 ⟨.t 38, .mv (.l 8), none⟩,
 ⟨.t 39, .mv (.l 1), none⟩,
 ⟨.t 40, .build [.p (.i .i64 0), .p (.s []), .p (.i .i64 0), .p (.i .i64 0)] [(0, 1, (.c (.p (.i .i64 1)))), (2, 1, (.t 38)), (3, 1, (.t 39))], none⟩,
 ⟨.t 41, .mv (.l 7), none⟩,
 ⟨.t 42, .build [.p (.i .i64 0), .p (.i .i64 0)] [], none⟩,
 ⟨.no, .sto 4 (.l 4) (.t 40), none⟩,
 ⟨.l 5, .mv (.t 41), none⟩,
 ⟨.no, .sto 2 (.l 6) (.t 42), none⟩]) (
 .ret)))))
theorem mc31_eq : (Tryd.f31.body.map (compile lv31 Tryd.prog 43)) = some mc31 := by kernel_rfl
def mr31 : List MR := [.cell true 4 4, .t 5, .cell true 2 6]
theorem mr31_eq : cRess lv31 Tryd.prog Tryd.f31.results.toList = some mr31 := by kernel_rfl
theorem call31 {args : List AV} {H : List AO} {Q : AV → List AO → Prop} (hla : args.length ≤ 43) (h : wpm (ACall Tryd.prog) mc31 (finK mr31 Q) ⟨argEnv 0 args, [], H⟩) : ACall Tryd.prog 31 args H Q :=
  acall_mc (by kernel_rfl) Tryd.func31 mc31_eq Tryd.ntmps31 (by kernel_rfl) mr31_eq hla h
/- impl.small -/
def lv32 : List Nat := [0, 2]
def mc32 : MC :=
.seq (.reg [
 ⟨.l 2, .mv (.c (.p (.b false))), none⟩]) (
 .seq (.reg [
 ⟨.t 3, .mv (.l 0), none⟩,
 ⟨.t 4, .bin .geq (.t 3) (.c (.p (.i .u8 97))), none⟩,
 ⟨.t 5, .mv (.t 4), none⟩,
 ⟨.t 6, .mv (.l 0), some ((.t 5), true)⟩,
 ⟨.t 7, .bin .leq (.t 6) (.c (.p (.i .u8 122))), some ((.t 5), true)⟩,
 ⟨.t 8, .pick (.t 5) (.t 7) (.c (.p (.b false))), none⟩,
 ⟨.l 2, .mv (.t 8), none⟩]) (
 .ret))
theorem mc32_eq : (Tryd.f32.body.map (compile lv32 Tryd.prog 9)) = some mc32 := by kernel_rfl
def mr32 : List MR := [.t 2]
theorem mr32_eq : cRess lv32 Tryd.prog Tryd.f32.results.toList = some mr32 := by kernel_rfl
theorem call32 {args : List AV} {H : List AO} {Q : AV → List AO → Prop} (hla : args.length ≤ 9) (h : wpm (ACall Tryd.prog) mc32 (finK mr32 Q) ⟨argEnv 0 args, [], H⟩) : ACall Tryd.prog 32 args H Q :=
  acall_mc (by kernel_rfl) Tryd.func32 mc32_eq Tryd.ntmps32 (by kernel_rfl) mr32_eq hla h
/- impl.great -/
def lv33 : List Nat := [0, 2]
def mc33 : MC :=
.seq (.reg [
 ⟨.l 2, .mv (.c (.p (.b false))), none⟩]) (
 .seq (.reg [
 ⟨.t 3, .mv (.l 0), none⟩,
 ⟨.t 4, .bin .geq (.t 3) (.c (.p (.i .u8 65))), none⟩,
 ⟨.t 5, .mv (.t 4), none⟩,
 ⟨.t 6, .mv (.l 0), some ((.t 5), true)⟩,
 ⟨.t 7, .bin .leq (.t 6) (.c (.p (.i .u8 90))), some ((.t 5), true)⟩,
 ⟨.t 8, .pick (.t 5) (.t 7) (.c (.p (.b false))), none⟩,
 ⟨.l 2, .mv (.t 8), none⟩]) (
 .ret))
theorem mc33_eq : (Tryd.f33.body.map (compile lv33 Tryd.prog 9)) = some mc33 := by kernel_rfl
def mr33 : List MR := [.t 2]
theorem mr33_eq : cRess lv33 Tryd.prog Tryd.f33.results.toList = some mr33 := by kernel_rfl
theorem call33 {args : List AV} {H : List AO} {Q : AV → List AO → Prop} (hla : args.length ≤ 9) (h : wpm (ACall Tryd.prog) mc33 (finK mr33 Q) ⟨argEnv 0 args, [], H⟩) : ACall Tryd.prog 33 args H Q :=
  acall_mc (by kernel_rfl) Tryd.func33 mc33_eq Tryd.ntmps33 (by kernel_rfl) mr33_eq hla h
/- impl.signAt -/
def lv36 : List Nat := [0, 1, 4, 6, 7, 8, 9, 10, 17]
def mc36 : MC :=
.seq (.reg [
 ⟨.l 4, .mv (.c (.p (.s []))), none⟩]) (
 .seq (.seq (.reg [
 ⟨.l 7, .call 46 [], none⟩,
 ⟨.l 8, .len false (.l 7), none⟩,
 ⟨.l 9, .mv (.c (.p (.i .i64 0))), none⟩]) (
 .blk 0 (
 .loop (
 .seq (.reg [
 ⟨.l 10, .bin .lss (.l 9) (.l 8), none⟩]) (
 .seq (.cond (.l 10) (
 .skip) (
 .exit 0)) (
 .seq (.blk 1 (
 .seq (.reg [
 ⟨.t 11, .ixs 1 (.l 7) (.l 9), none⟩,
 ⟨.t 12, .ld false 1 (.t 11), none⟩,
 ⟨.l 6, .mv (.t 12), none⟩]) (
 .seq (.reg [
 ⟨.t 13, .mv (.l 0), none⟩,
 ⟨.t 14, .mv (.l 1), none⟩,
 ⟨.t 15, .slc none (.t 13) (some (.t 14)) none, none⟩,
 ⟨.t 16, .mv (.l 6), none⟩,
 ⟨.l 17, .call 47 [.t 15, .t 16], none⟩]) (
 .cond (.l 17) (
 .seq (.reg [
 ⟨.t 18, .mv (.l 6), none⟩,
 ⟨.l 4, .mv (.t 18), none⟩]) (
 .ret)) (
 .skip))))) (
 .reg [
 ⟨.t 19, .bin .add (.l 9) (.c (.p (.i .i64 1))), none⟩,
 ⟨.l 9, .mv (.t 19), none⟩]))))))) (
 .seq (.reg [
 ⟨.l 4, .mv (.c (.p (.s []))), none⟩]) (
 .ret)))
theorem mc36_eq : (Tryd.f36.body.map (compile lv36 Tryd.prog 20)) = some mc36 := by kernel_rfl
def mr36 : List MR := [.t 4]
theorem mr36_eq : cRess lv36 Tryd.prog Tryd.f36.results.toList = some mr36 := by kernel_rfl
theorem call36 {args : List AV} {H : List AO} {Q : AV → List AO → Prop} (hla : args.length ≤ 20) (h : wpm (ACall Tryd.prog) mc36 (finK mr36 Q) ⟨argEnv 0 args, [], H⟩) : ACall Tryd.prog 36 args H Q :=
  acall_mc (by kernel_rfl) Tryd.func36 mc36_eq Tryd.ntmps36 (by kernel_rfl) mr36_eq hla h
/- (*impl.parser).row$1 -/
def lv38 : List Nat := [0, 1, 2]
def mc38 : MC :=
.seq (.reg [
 ⟨.l 2, .alloc zl3_0, none⟩]) (
 .seq (.reg [
 ⟨.t 3, .ld false 1 (.l 0), none⟩,
 ⟨.t 4, .ld false 1 (.l 1), none⟩,
 ⟨.t 5, .call 39 [.t 3, .t 4], none⟩,
 ⟨.no, .sto 7 (.l 2) (.t 5), none⟩]) (
 .ret))
theorem mc38_eq : (Tryd.f38.body.map (compile lv38 Tryd.prog 6)) = some mc38 := by kernel_rfl
def mr38 : List MR := [.cell true 7 2]
theorem mr38_eq : cRess lv38 Tryd.prog Tryd.f38.results.toList = some mr38 := by kernel_rfl
theorem call38 {args : List AV} {H : List AO} {Q : AV → List AO → Prop} (hla : args.length ≤ 6) (h : wpm (ACall Tryd.prog) mc38 (finK mr38 Q) ⟨argEnv 0 args, [], H⟩) : ACall Tryd.prog 38 args H Q :=
  acall_mc (by kernel_rfl) Tryd.func38 mc38_eq Tryd.ntmps38 (by kernel_rfl) mr38_eq hla h
/- (*impl.parser).app -/
def lv39 : List Nat := [0, 1, 4, 5, 10]
def mc39 : MC :=
.seq (.reg [
 ⟨.l 4, .alloc zl3_0, none⟩]) (
 .seq (.reg [
 ⟨.t 6, .mv (.l 0), none⟩,
 ⟨.t 7, .mv (.l 1), none⟩,
 ⟨.t 8, .call 48 [.t 6, .t 7], none⟩,
 ⟨.l 5, .alloc zl3_0, none⟩,
 ⟨.no, .sto 7 (.l 5) (.t 8), none⟩]) (
 .seq (.blk 0 (
 .loop (
 .seq (.seq (.reg [
 ⟨.t 9, .mv (.l 0), none⟩,
 ⟨.l 10, .call 49 [.t 9], none⟩]) (
 .cond (.l 10) (
 .skip) (
 .exit 0))) (
 .blk 1 (
 .drw [
 ⟨.t 11, .fad 4 (.l 5), none⟩,
 ⟨.t 12, .ld false 1 (.t 11), none⟩,
 ⟨.t 13, .ld true 7 (.l 5), none⟩,
 ⟨.t 14, .mv (.l 0), none⟩,
 ⟨.t 15, .mv (.l 1), none⟩,
 ⟨.t 16, .call 50 [.t 14, .t 15], none⟩,
 ⟨.t 17, .bsl 7 zl3_0 2 [(0, (.t 13)), (1, (.t 16))], none⟩] [
 ⟨.t 18, .build zl3_0 [(0, 1, (.c (.p (.i .i64 9)))), (4, 1, (.t 12)), (5, 1, (.t 17))], none⟩,
 ⟨.no, .sto 7 (.l 5) (.t 18), none⟩]))))) (
 .seq (.reg [
 ⟨.t 19, .ld true 7 (.l 5), none⟩,
 ⟨.no, .sto 7 (.l 4) (.t 19), none⟩]) (
 .ret))))
theorem mc39_eq : (Tryd.f39.body.map (compile lv39 Tryd.prog 20)) = some mc39 := by kernel_rfl
def mr39 : List MR := [.cell true 7 4]
theorem mr39_eq : cRess lv39 Tryd.prog Tryd.f39.results.toList = some mr39 := by kernel_rfl
theorem call39 {args : List AV} {H : List AO} {Q : AV → List AO → Prop} (hla : args.length ≤ 20) (h : wpm (ACall Tryd.prog) mc39 (finK mr39 Q) ⟨argEnv 0 args, [], H⟩) : ACall Tryd.prog 39 args H Q :=
  acall_mc (by kernel_rfl) Tryd.func39 mc39_eq Tryd.ntmps39 (by kernel_rfl) mr39_eq hla h
/- (*impl.parser).row$2 -/
def lv40 : List Nat := [0, 1, 2]
def mc40 : MC :=
.seq (.reg [
 ⟨.l 2, .alloc zl3_0, none⟩]) (
 .seq (.reg [
 ⟨.t 3, .ld false 1 (.l 0), none⟩,
 ⟨.t 4, .ld false 1 (.l 1), none⟩,
 ⟨.t 5, .call 28 [.t 3, .c (.p (.i .i64 1)), .t 4], none⟩,
 ⟨.no, .sto 7 (.l 2) (.t 5), none⟩]) (
 .ret))
theorem mc40_eq : (Tryd.f40.body.map (compile lv40 Tryd.prog 6)) = some mc40 := by kernel_rfl
def mr40 : List MR := [.cell true 7 2]
theorem mr40_eq : cRess lv40 Tryd.prog Tryd.f40.results.toList = some mr40 := by kernel_rfl
theorem call40 {args : List AV} {H : List AO} {Q : AV → List AO → Prop} (hla : args.length ≤ 6) (h : wpm (ACall Tryd.prog) mc40 (finK mr40 Q) ⟨argEnv 0 args, [], H⟩) : ACall Tryd.prog 40 args H Q :=
  acall_mc (by kernel_rfl) Tryd.func40 mc40_eq Tryd.ntmps40 (by kernel_rfl) mr40_eq hla h
/- slices.Contains[[]string,string] -/
def lv41 : List Nat := [0, 1, 4]
def mc41 : MC :=
.seq (.reg [
 ⟨.l 4, .mv (.c (.p (.b false))), none⟩]) (
 .seq (.reg [
 ⟨.t 5, .mv (.l 0), none⟩,
 ⟨.t 6, .mv (.l 1), none⟩,
 ⟨.t 7, .call 51 [.t 5, .t 6], none⟩,
 ⟨.t 8, .bin .geq (.t 7) (.c (.p (.i .i64 0))), none⟩,
 ⟨.l 4, .mv (.t 8), none⟩]) (
 .ret))
theorem mc41_eq : (Tryd.f41.body.map (compile lv41 Tryd.prog 9)) = some mc41 := by kernel_rfl
def mr41 : List MR := [.t 4]
theorem mr41_eq : cRess lv41 Tryd.prog Tryd.f41.results.toList = some mr41 := by kernel_rfl
theorem call41 {args : List AV} {H : List AO} {Q : AV → List AO → Prop} (hla : args.length ≤ 9) (h : wpm (ACall Tryd.prog) mc41 (finK mr41 Q) ⟨argEnv 0 args, [], H⟩) : ACall Tryd.prog 41 args H Q :=
  acall_mc (by kernel_rfl) Tryd.func41 mc41_eq Tryd.ntmps41 (by kernel_rfl) mr41_eq hla h
/- impl.signs -/
def lv46 : List Nat := [0]
def mc46 : MC :=
.seq (.reg [
 ⟨.l 0, .mv (.c (.p (.nl))), none⟩]) (
 .seq (.reg [
 ⟨.t 1, .bsl 1 [.p (.s [])] 15 [(0, (.c (.p (.s [45, 62])))), (1, (.c (.p (.s [58, 61])))), (2, (.c (.p (.s [61])))), (3, (.c (.p (.s [60])))), (4, (.c (.p (.s [43])))), (5, (.c (.p (.s [45])))), (6, (.c (.p (.s [42])))), (7, (.c (.p (.s [94])))), (8, (.c (.p (.s [59])))), (9, (.c (.p (.s [124])))), (10, (.c (.p (.s [40])))), (11, (.c (.p (.s [41])))), (12, (.c (.p (.s [44])))), (13, (.c (.p (.s [95])))), (14, (.c (.p (.s [33]))))], none⟩,
 ⟨.l 0, .mv (.t 1), none⟩]) (
 .ret))
theorem mc46_eq : (Tryd.f46.body.map (compile lv46 Tryd.prog 2)) = some mc46 := by kernel_rfl
def mr46 : List MR := [.t 0]
theorem mr46_eq : cRess lv46 Tryd.prog Tryd.f46.results.toList = some mr46 := by kernel_rfl
theorem call46 {args : List AV} {H : List AO} {Q : AV → List AO → Prop} (hla : args.length ≤ 2) (h : wpm (ACall Tryd.prog) mc46 (finK mr46 Q) ⟨argEnv 0 args, [], H⟩) : ACall Tryd.prog 46 args H Q :=
  acall_mc (by kernel_rfl) Tryd.func46 mc46_eq Tryd.ntmps46 (by kernel_rfl) mr46_eq hla h
/- strings.HasPrefix -/
def lv47 : List Nat := [0, 1, 4]
def mc47 : MC :=
.seq (.reg [
 ⟨.l 4, .mv (.c (.p (.b false))), none⟩]) (
 .seq (.reg [
 ⟨.t 5, .mv (.l 0), none⟩,
 ⟨.t 6, .mv (.l 1), none⟩,
 ⟨.t 7, .call 54 [.t 5, .t 6], none⟩,
 ⟨.l 4, .mv (.t 7), none⟩]) (
 .ret))
theorem mc47_eq : (Tryd.f47.body.map (compile lv47 Tryd.prog 8)) = some mc47 := by kernel_rfl
def mr47 : List MR := [.t 4]
theorem mr47_eq : cRess lv47 Tryd.prog Tryd.f47.results.toList = some mr47 := by kernel_rfl
theorem call47 {args : List AV} {H : List AO} {Q : AV → List AO → Prop} (hla : args.length ≤ 8) (h : wpm (ACall Tryd.prog) mc47 (finK mr47 Q) ⟨argEnv 0 args, [], H⟩) : ACall Tryd.prog 47 args H Q :=
  acall_mc (by kernel_rfl) Tryd.func47 mc47_eq Tryd.ntmps47 (by kernel_rfl) mr47_eq hla h
/- (*impl.parser).pre -/
def lv48 : List Nat := [0, 1, 4, 5, 7, 8, 11, 12, 13, 14, 19, 31, 48]
def mc48 : MC :=
.seq (.reg [
 ⟨.l 4, .alloc zl3_0, none⟩]) (
 .seq (.reg [
 ⟨.t 9, .mv (.l 0), none⟩,
 ⟨.t 10, .call 13 [.t 9], none⟩,
 ⟨.l 5, .alloc [.p (.i .i64 0), .p (.s []), .p (.i .i64 0), .p (.i .i64 0)], none⟩,
 ⟨.no, .sto 4 (.l 5) (.t 10), none⟩]) (
 .seq (.seq (.reg [
 ⟨.l 11, .bsl 1 [.p (.s [])] 5 [(0, (.c (.p (.s [112, 114, 105, 110, 116])))), (1, (.c (.p (.s [101, 120, 105, 116])))), (2, (.c (.p (.s [115, 105, 122, 101])))), (3, (.c (.p (.s [114, 101, 102])))), (4, (.c (.p (.s [33]))))], none⟩,
 ⟨.l 12, .len false (.l 11), none⟩,
 ⟨.l 13, .mv (.c (.p (.i .i64 0))), none⟩]) (
 .blk 0 (
 .loop (
 .seq (.reg [
 ⟨.l 14, .bin .lss (.l 13) (.l 12), none⟩]) (
 .seq (.cond (.l 14) (
 .skip) (
 .exit 0)) (
 .seq (.blk 1 (
 .seq (.reg [
 ⟨.t 15, .ixs 1 (.l 11) (.l 13), none⟩,
 ⟨.t 16, .ld false 1 (.t 15), none⟩,
 ⟨.l 7, .mv (.t 16), none⟩]) (
 .seq (.reg [
 ⟨.t 17, .mv (.l 0), none⟩,
 ⟨.t 18, .mv (.l 7), none⟩,
 ⟨.l 19, .call 15 [.t 17, .t 18], none⟩]) (
 .cond (.l 19) (
 .seq (.drw [
 ⟨.t 20, .mv (.l 7), none⟩,
 ⟨.t 21, .fad 3 (.l 5), none⟩,
 ⟨.t 22, .ld false 1 (.t 21), none⟩,
 ⟨.t 23, .mv (.l 0), none⟩,
 ⟨.t 24, .mv (.l 1), none⟩,
 ⟨.t 25, .call 50 [.t 23, .t 24], none⟩,
 ⟨.t 26, .bsl 7 zl3_0 1 [(0, (.t 25))], none⟩] [
 ⟨.t 27, .build zl3_0 [(0, 1, (.c (.p (.i .i64 15)))), (1, 1, (.t 20)), (4, 1, (.t 22)), (5, 1, (.t 26))], none⟩,
 ⟨.no, .sto 7 (.l 4) (.t 27), none⟩]) (
 .ret)) (
 .skip))))) (
 .reg [
 ⟨.t 28, .bin .add (.l 13) (.c (.p (.i .i64 1))), none⟩,
 ⟨.l 13, .mv (.t 28), none⟩]))))))) (
 .seq (.seq (.reg [
 ⟨.t 29, .mv (.l 0), none⟩,
 ⟨.t 30, .call 20 [.t 29, .c (.p (.i .i64 4))], none⟩,
 ⟨.l 31, .un .not (.t 30), none⟩]) (
 .cond (.l 31) (
 .seq (.reg [
 ⟨.t 32, .mv (.l 0), none⟩,
 ⟨.t 33, .mv (.l 1), none⟩,
 ⟨.t 34, .call 50 [.t 32, .t 33], none⟩,
 ⟨.no, .sto 7 (.l 4) (.t 34), none⟩]) (
 .ret)) (
 .skip))) (
 .seq (.reg [
 ⟨.t 35, .mv (.l 0), none⟩,
 ⟨.t 36, .nilc (.t 35), none⟩,
 ⟨.t 37, .fad 1 (.t 36), none⟩,
 ⟨.t 38, .ld false 1 (.t 37), none⟩,
 ⟨.t 39, .bin .add (.t 38) (.c (.p (.i .i64 1))), none⟩,
 ⟨.t 40, .nilc (.t 35), none⟩,
 ⟨.t 41, .fad 1 (.t 40), none⟩,
 ⟨.no, .sto 1 (.t 41) (.t 39), none⟩]) (
 .seq (.reg [
 ⟨.t 42, .fad 1 (.l 5), none⟩,
 ⟨.t 43, .ld false 1 (.t 42), none⟩,
 ⟨.t 44, .fad 3 (.l 5), none⟩,
 ⟨.t 45, .ld false 1 (.t 44), none⟩,
 ⟨.t 46, .build zl3_0 [(0, 1, (.c (.p (.i .i64 6)))), (1, 1, (.t 43)), (4, 1, (.t 45))], none⟩,
 ⟨.l 8, .alloc zl3_0, none⟩,
 ⟨.no, .sto 7 (.l 8) (.t 46), none⟩]) (
 .seq (.seq (.reg [
 ⟨.t 47, .mv (.l 0), none⟩,
 ⟨.l 48, .call 49 [.t 47], none⟩]) (
 .cond (.l 48) (
 .reg [
 ⟨.t 49, .mv (.l 0), none⟩,
 ⟨.t 50, .mv (.l 1), none⟩,
 ⟨.t 51, .call 50 [.t 49, .t 50], none⟩,
 ⟨.t 52, .bsl 7 zl3_0 1 [(0, (.t 51))], none⟩,
 ⟨.t 53, .fad 5 (.l 8), none⟩,
 ⟨.no, .sto 1 (.t 53) (.t 52), none⟩]) (
 .skip))) (
 .seq (.reg [
 ⟨.t 54, .ld true 7 (.l 8), none⟩,
 ⟨.no, .sto 7 (.l 4) (.t 54), none⟩]) (
 .ret))))))))
theorem mc48_eq : (Tryd.f48.body.map (compile lv48 Tryd.prog 55)) = some mc48 := by kernel_rfl
def mr48 : List MR := [.cell true 7 4]
theorem mr48_eq : cRess lv48 Tryd.prog Tryd.f48.results.toList = some mr48 := by kernel_rfl
theorem call48 {args : List AV} {H : List AO} {Q : AV → List AO → Prop} (hla : args.length ≤ 55) (h : wpm (ACall Tryd.prog) mc48 (finK mr48 Q) ⟨argEnv 0 args, [], H⟩) : ACall Tryd.prog 48 args H Q :=
  acall_mc (by kernel_rfl) Tryd.func48 mc48_eq Tryd.ntmps48 (by kernel_rfl) mr48_eq hla h
/- (*impl.parser).atomNext -/
def lv49 : List Nat := [0, 2]
def mc49 : MC :=
.seq (.reg [
 ⟨.l 2, .mv (.c (.p (.b false))), none⟩]) (
 .seq (.reg [
 ⟨.t 3, .mv (.l 0), none⟩,
 ⟨.t 4, .call 20 [.t 3, .c (.p (.i .i64 1))], none⟩,
 ⟨.t 5, .mv (.t 4), none⟩,
 ⟨.t 6, .mv (.l 0), some ((.t 5), false)⟩,
 ⟨.t 7, .call 20 [.t 6, .c (.p (.i .i64 2))], some ((.t 5), false)⟩,
 ⟨.t 8, .pick (.t 5) (.c (.p (.b true))) (.t 7), none⟩,
 ⟨.t 9, .mv (.t 8), none⟩,
 ⟨.t 10, .mv (.l 0), some ((.t 9), false)⟩,
 ⟨.t 11, .call 20 [.t 10, .c (.p (.i .i64 3))], some ((.t 9), false)⟩,
 ⟨.t 12, .pick (.t 9) (.c (.p (.b true))) (.t 11), none⟩,
 ⟨.t 13, .mv (.t 12), none⟩,
 ⟨.t 14, .mv (.l 0), some ((.t 13), false)⟩,
 ⟨.t 15, .call 20 [.t 14, .c (.p (.i .i64 4))], some ((.t 13), false)⟩,
 ⟨.t 16, .pick (.t 13) (.c (.p (.b true))) (.t 15), none⟩,
 ⟨.t 17, .mv (.t 16), none⟩,
 ⟨.t 18, .mv (.l 0), some ((.t 17), false)⟩,
 ⟨.t 19, .call 25 [.t 18, .c (.p (.s [116, 114, 117, 101]))], some ((.t 17), false)⟩,
 ⟨.t 20, .pick (.t 17) (.c (.p (.b true))) (.t 19), none⟩,
 ⟨.t 21, .mv (.t 20), none⟩,
 ⟨.t 22, .mv (.l 0), some ((.t 21), false)⟩,
 ⟨.t 23, .call 25 [.t 22, .c (.p (.s [102, 97, 108, 115, 101]))], some ((.t 21), false)⟩,
 ⟨.t 24, .pick (.t 21) (.c (.p (.b true))) (.t 23), none⟩,
 ⟨.t 25, .mv (.t 24), none⟩,
 ⟨.t 26, .mv (.l 0), some ((.t 25), false)⟩,
 ⟨.t 27, .call 25 [.t 26, .c (.p (.s [114, 101, 97, 100]))], some ((.t 25), false)⟩,
 ⟨.t 28, .pick (.t 25) (.c (.p (.b true))) (.t 27), none⟩,
 ⟨.t 29, .mv (.t 28), none⟩,
 ⟨.t 30, .mv (.l 0), some ((.t 29), false)⟩,
 ⟨.t 31, .call 25 [.t 30, .c (.p (.s [40]))], some ((.t 29), false)⟩,
 ⟨.t 32, .pick (.t 29) (.c (.p (.b true))) (.t 31), none⟩,
 ⟨.l 2, .mv (.t 32), none⟩]) (
 .ret))
theorem mc49_eq : (Tryd.f49.body.map (compile lv49 Tryd.prog 33)) = some mc49 := by kernel_rfl
def mr49 : List MR := [.t 2]
theorem mr49_eq : cRess lv49 Tryd.prog Tryd.f49.results.toList = some mr49 := by kernel_rfl
theorem call49 {args : List AV} {H : List AO} {Q : AV → List AO → Prop} (hla : args.length ≤ 33) (h : wpm (ACall Tryd.prog) mc49 (finK mr49 Q) ⟨argEnv 0 args, [], H⟩) : ACall Tryd.prog 49 args H Q :=
  acall_mc (by kernel_rfl) Tryd.func49 mc49_eq Tryd.ntmps49 (by kernel_rfl) mr49_eq hla h
/- (*impl.parser).atom -/
def lv50 : List Nat := [0, 1, 4, 5, 6, 15, 22, 29, 34, 38, 45, 52]
def mc50 : MC :=
.seq (.reg [
 ⟨.l 4, .alloc zl3_0, none⟩]) (
 .seq (.reg [
 ⟨.t 7, .mv (.l 0), none⟩,
 ⟨.t 8, .call 13 [.t 7], none⟩,
 ⟨.l 5, .alloc [.p (.i .i64 0), .p (.s []), .p (.i .i64 0), .p (.i .i64 0)], none⟩,
 ⟨.no, .sto 4 (.l 5) (.t 8), none⟩]) (
 .seq (.reg [
 ⟨.t 9, .fad 3 (.l 5), none⟩,
 ⟨.t 10, .ld false 1 (.t 9), none⟩,
 ⟨.t 11, .build zl3_0 [(4, 1, (.t 10))], none⟩,
 ⟨.l 6, .alloc zl3_0, none⟩,
 ⟨.no, .sto 7 (.l 6) (.t 11), none⟩]) (
 .seq (.blk 0 (
 .seq (.reg [
 ⟨.t 16, .mv (.l 0), none⟩,
 ⟨.t 17, .call 20 [.t 16, .c (.p (.i .i64 1))], none⟩,
 ⟨.l 15, .mv (.t 17), none⟩]) (
 .cond (.l 15) (
 .drw [
 ⟨.t 18, .fad 2 (.l 5), none⟩,
 ⟨.t 19, .ld false 1 (.t 18), none⟩,
 ⟨.t 20, .fad 0 (.l 6), none⟩,
 ⟨.no, .sto 1 (.t 20) (.c (.p (.i .i64 1))), none⟩] [
 ⟨.t 21, .fad 2 (.l 6), none⟩,
 ⟨.no, .sto 1 (.t 21) (.t 19), none⟩]) (
 .seq (.reg [
 ⟨.t 23, .mv (.l 0), none⟩,
 ⟨.t 24, .call 20 [.t 23, .c (.p (.i .i64 2))], none⟩,
 ⟨.l 22, .mv (.t 24), none⟩]) (
 .cond (.l 22) (
 .drw [
 ⟨.t 25, .fad 1 (.l 5), none⟩,
 ⟨.t 26, .ld false 1 (.t 25), none⟩,
 ⟨.t 27, .fad 0 (.l 6), none⟩,
 ⟨.no, .sto 1 (.t 27) (.c (.p (.i .i64 2))), none⟩] [
 ⟨.t 28, .fad 3 (.l 6), none⟩,
 ⟨.no, .sto 1 (.t 28) (.t 26), none⟩]) (
 .seq (.reg [
 ⟨.t 30, .mv (.l 0), none⟩,
 ⟨.t 31, .call 25 [.t 30, .c (.p (.s [116, 114, 117, 101]))], none⟩,
 ⟨.l 29, .mv (.t 31), none⟩]) (
 .cond (.l 29) (
 .reg [
 ⟨.t 32, .fad 0 (.l 6), none⟩,
 ⟨.no, .sto 1 (.t 32) (.c (.p (.i .i64 3))), none⟩,
 ⟨.t 33, .fad 2 (.l 6), none⟩,
 ⟨.no, .sto 1 (.t 33) (.c (.p (.i .i64 1))), none⟩]) (
 .seq (.reg [
 ⟨.t 35, .mv (.l 0), none⟩,
 ⟨.t 36, .call 25 [.t 35, .c (.p (.s [102, 97, 108, 115, 101]))], none⟩,
 ⟨.l 34, .mv (.t 36), none⟩]) (
 .cond (.l 34) (
 .reg [
 ⟨.t 37, .fad 0 (.l 6), none⟩,
 ⟨.no, .sto 1 (.t 37) (.c (.p (.i .i64 3))), none⟩]) (
 .seq (.reg [
 ⟨.t 39, .mv (.l 0), none⟩,
 ⟨.t 40, .call 20 [.t 39, .c (.p (.i .i64 3))], none⟩,
 ⟨.l 38, .mv (.t 40), none⟩]) (
 .cond (.l 38) (
 .drw [
 ⟨.t 41, .fad 1 (.l 5), none⟩,
 ⟨.t 42, .ld false 1 (.t 41), none⟩,
 ⟨.t 43, .fad 0 (.l 6), none⟩,
 ⟨.no, .sto 1 (.t 43) (.c (.p (.i .i64 5))), none⟩] [
 ⟨.t 44, .fad 1 (.l 6), none⟩,
 ⟨.no, .sto 1 (.t 44) (.t 42), none⟩]) (
 .seq (.reg [
 ⟨.t 46, .mv (.l 0), none⟩,
 ⟨.t 47, .call 20 [.t 46, .c (.p (.i .i64 4))], none⟩,
 ⟨.l 45, .mv (.t 47), none⟩]) (
 .cond (.l 45) (
 .drw [
 ⟨.t 48, .fad 1 (.l 5), none⟩,
 ⟨.t 49, .ld false 1 (.t 48), none⟩,
 ⟨.t 50, .fad 0 (.l 6), none⟩,
 ⟨.no, .sto 1 (.t 50) (.c (.p (.i .i64 6))), none⟩] [
 ⟨.t 51, .fad 1 (.l 6), none⟩,
 ⟨.no, .sto 1 (.t 51) (.t 49), none⟩]) (
 .seq (.reg [
 ⟨.t 53, .mv (.l 0), none⟩,
 ⟨.t 54, .call 25 [.t 53, .c (.p (.s [114, 101, 97, 100]))], none⟩,
 ⟨.l 52, .mv (.t 54), none⟩]) (
 .cond (.l 52) (
 .drw [
 ⟨.t 55, .fad 1 (.l 5), none⟩,
 ⟨.t 56, .ld false 1 (.t 55), none⟩,
 ⟨.t 57, .fad 0 (.l 6), none⟩,
 ⟨.no, .sto 1 (.t 57) (.c (.p (.i .i64 15))), none⟩] [
 ⟨.t 58, .fad 1 (.l 6), none⟩,
 ⟨.no, .sto 1 (.t 58) (.t 56), none⟩]) (
 .seq (.reg [
 ⟨.t 12, .mv (.l 0), none⟩,
 ⟨.t 13, .mv (.l 1), none⟩,
 ⟨.t 14, .call 55 [.t 12, .t 13], none⟩,
 ⟨.no, .sto 7 (.l 4) (.t 14), none⟩]) (
 .ret))))))))))))))))) (
 .seq (.reg [
 ⟨.t 59, .mv (.l 0), none⟩,
 ⟨.t 60, .nilc (.t 59), none⟩,
 ⟨.t 61, .fad 1 (.t 60), none⟩,
 ⟨.t 62, .ld false 1 (.t 61), none⟩,
 ⟨.t 63, .bin .add (.t 62) (.c (.p (.i .i64 1))), none⟩,
 ⟨.t 64, .nilc (.t 59), none⟩,
 ⟨.t 65, .fad 1 (.t 64), none⟩,
 ⟨.no, .sto 1 (.t 65) (.t 63), none⟩]) (
 .seq (.reg [
 ⟨.t 66, .ld true 7 (.l 6), none⟩,
 ⟨.no, .sto 7 (.l 4) (.t 66), none⟩]) (
 .ret))))))
theorem mc50_eq : (Tryd.f50.body.map (compile lv50 Tryd.prog 67)) = some mc50 := by kernel_rfl
def mr50 : List MR := [.cell true 7 4]
theorem mr50_eq : cRess lv50 Tryd.prog Tryd.f50.results.toList = some mr50 := by kernel_rfl
theorem call50 {args : List AV} {H : List AO} {Q : AV → List AO → Prop} (hla : args.length ≤ 67) (h : wpm (ACall Tryd.prog) mc50 (finK mr50 Q) ⟨argEnv 0 args, [], H⟩) : ACall Tryd.prog 50 args H Q :=
  acall_mc (by kernel_rfl) Tryd.func50 mc50_eq Tryd.ntmps50 (by kernel_rfl) mr50_eq hla h
/- slices.Index[[]string,string] -/
def lv51 : List Nat := [0, 1, 4, 5, 7, 8, 9, 16]
def mc51 : MC :=
.seq (.reg [
 ⟨.l 4, .mv (.c (.p (.i .i64 0))), none⟩]) (
 .seq (.seq (.reg [
 ⟨.t 6, .mv (.l 0), none⟩,
 ⟨.l 7, .len false (.t 6), none⟩,
 ⟨.l 8, .mv (.c (.p (.i .i64 0))), none⟩]) (
 .blk 0 (
 .loop (
 .seq (.reg [
 ⟨.l 9, .bin .lss (.l 8) (.l 7), none⟩]) (
 .seq (.cond (.l 9) (
 .skip) (
 .exit 0)) (
 .seq (.blk 1 (
 .seq (.reg [
 ⟨.t 10, .mv (.l 8), none⟩,
 ⟨.l 5, .mv (.t 10), none⟩]) (
 .seq (.reg [
 ⟨.t 11, .mv (.l 1), none⟩,
 ⟨.t 12, .mv (.l 0), none⟩,
 ⟨.t 13, .mv (.l 5), none⟩,
 ⟨.t 14, .ixs 1 (.t 12) (.t 13), none⟩,
 ⟨.t 15, .ld false 1 (.t 14), none⟩,
 ⟨.l 16, .bin .eql (.t 11) (.t 15), none⟩]) (
 .cond (.l 16) (
 .seq (.reg [
 ⟨.t 17, .mv (.l 5), none⟩,
 ⟨.l 4, .mv (.t 17), none⟩]) (
 .ret)) (
 .skip))))) (
 .reg [
 ⟨.t 18, .bin .add (.l 8) (.c (.p (.i .i64 1))), none⟩,
 ⟨.l 8, .mv (.t 18), none⟩]))))))) (
 .seq (.reg [
 ⟨.l 4, .mv (.c (.p (.i .i64 (-1)))), none⟩]) (
 .ret)))
theorem mc51_eq : (Tryd.f51.body.map (compile lv51 Tryd.prog 19)) = some mc51 := by kernel_rfl
def mr51 : List MR := [.t 4]
theorem mr51_eq : cRess lv51 Tryd.prog Tryd.f51.results.toList = some mr51 := by kernel_rfl
theorem call51 {args : List AV} {H : List AO} {Q : AV → List AO → Prop} (hla : args.length ≤ 19) (h : wpm (ACall Tryd.prog) mc51 (finK mr51 Q) ⟨argEnv 0 args, [], H⟩) : ACall Tryd.prog 51 args H Q :=
  acall_mc (by kernel_rfl) Tryd.func51 mc51_eq Tryd.ntmps51 (by kernel_rfl) mr51_eq hla h
/- internal/stringslite.HasPrefix -/
def lv54 : List Nat := [0, 1, 4]
def mc54 : MC :=
.seq (.reg [
 ⟨.l 4, .mv (.c (.p (.b false))), none⟩]) (
 .seq (.reg [
 ⟨.t 5, .mv (.l 0), none⟩,
 ⟨.t 6, .len true (.t 5), none⟩,
 ⟨.t 7, .mv (.l 1), none⟩,
 ⟨.t 8, .len true (.t 7), none⟩,
 ⟨.t 9, .bin .geq (.t 6) (.t 8), none⟩,
 ⟨.t 10, .mv (.t 9), none⟩,
 ⟨.t 11, .mv (.l 0), some ((.t 10), true)⟩,
 ⟨.t 12, .mv (.l 1), some ((.t 10), true)⟩,
 ⟨.t 13, .len true (.t 12), some ((.t 10), true)⟩,
 ⟨.t 14, .slc none (.t 11) none (some (.t 13)), some ((.t 10), true)⟩,
 ⟨.t 15, .mv (.l 1), some ((.t 10), true)⟩,
 ⟨.t 16, .bin .eql (.t 14) (.t 15), some ((.t 10), true)⟩,
 ⟨.t 17, .pick (.t 10) (.t 16) (.c (.p (.b false))), none⟩,
 ⟨.l 4, .mv (.t 17), none⟩]) (
 .ret))
theorem mc54_eq : (Tryd.f54.body.map (compile lv54 Tryd.prog 18)) = some mc54 := by kernel_rfl
def mr54 : List MR := [.t 4]
theorem mr54_eq : cRess lv54 Tryd.prog Tryd.f54.results.toList = some mr54 := by kernel_rfl
theorem call54 {args : List AV} {H : List AO} {Q : AV → List AO → Prop} (hla : args.length ≤ 18) (h : wpm (ACall Tryd.prog) mc54 (finK mr54 Q) ⟨argEnv 0 args, [], H⟩) : ACall Tryd.prog 54 args H Q :=
  acall_mc (by kernel_rfl) Tryd.func54 mc54_eq Tryd.ntmps54 (by kernel_rfl) mr54_eq hla h
/- (*impl.parser).brackets -/
def lv55 : List Nat := [0, 1, 4, 5, 6, 19, 27, 40]
def mc55 : MC :=
.seq (.reg [
 ⟨.l 4, .alloc zl3_0, none⟩]) (
 .seq (.reg [
 ⟨.t 7, .mv (.l 0), none⟩,
 ⟨.t 8, .call 13 [.t 7], none⟩,
 ⟨.t 9, .fld false 3 1 (.t 8), none⟩,
 ⟨.t 10, .build zl3_0 [(0, 1, (.c (.p (.i .i64 4)))), (4, 1, (.t 9))], none⟩,
 ⟨.l 5, .alloc zl3_0, none⟩,
 ⟨.no, .sto 7 (.l 5) (.t 10), none⟩]) (
 .seq (.reg [
 ⟨.t 11, .mv (.l 0), none⟩,
 ⟨.t 12, .bsl 1 [.p (.s [])] 1 [(0, (.c (.p (.s [40]))))], none⟩,
 ⟨.t 13, .call 17 [.t 11, .t 12], none⟩]) (
 .seq (.seq (.reg [
 ⟨.t 14, .mv (.l 0), none⟩,
 ⟨.t 15, .call 15 [.t 14, .c (.p (.s [41]))], none⟩,
 ⟨.t 16, .mv (.t 15), none⟩,
 ⟨.t 17, .mv (.l 0), some ((.t 16), false)⟩,
 ⟨.t 18, .call 10 [.t 17], some ((.t 16), false)⟩,
 ⟨.l 19, .pick (.t 16) (.c (.p (.b true))) (.t 18), none⟩]) (
 .cond (.l 19) (
 .seq (.reg [
 ⟨.t 20, .ld true 7 (.l 5), none⟩,
 ⟨.no, .sto 7 (.l 4) (.t 20), none⟩]) (
 .ret)) (
 .skip))) (
 .seq (.reg [
 ⟨.t 21, .mv (.l 0), none⟩,
 ⟨.t 22, .mv (.l 1), none⟩,
 ⟨.t 23, .bin .add (.t 22) (.c (.p (.i .i64 1))), none⟩,
 ⟨.t 24, .call 8 [.t 21, .t 23], none⟩,
 ⟨.t 25, .bsl 7 zl3_0 1 [(0, (.t 24))], none⟩,
 ⟨.l 6, .mv (.t 25), none⟩]) (
 .seq (.blk 0 (
 .loop (
 .seq (.seq (.reg [
 ⟨.t 26, .mv (.l 0), none⟩,
 ⟨.l 27, .call 15 [.t 26, .c (.p (.s [44]))], none⟩]) (
 .cond (.l 27) (
 .skip) (
 .exit 0))) (
 .blk 1 (
 .reg [
 ⟨.t 28, .mv (.l 6), none⟩,
 ⟨.t 29, .mv (.l 0), none⟩,
 ⟨.t 30, .mv (.l 1), none⟩,
 ⟨.t 31, .bin .add (.t 30) (.c (.p (.i .i64 1))), none⟩,
 ⟨.t 32, .call 8 [.t 29, .t 31], none⟩,
 ⟨.t 33, .bsl 7 zl3_0 1 [(0, (.t 32))], none⟩,
 ⟨.t 34, .app 7 104 (.t 28) (.t 33), none⟩,
 ⟨.l 6, .mv (.t 34), none⟩]))))) (
 .seq (.reg [
 ⟨.t 35, .mv (.l 0), none⟩,
 ⟨.t 36, .bsl 1 [.p (.s [])] 1 [(0, (.c (.p (.s [41]))))], none⟩,
 ⟨.t 37, .call 17 [.t 35, .t 36], none⟩]) (
 .seq (.seq (.reg [
 ⟨.t 38, .mv (.l 6), none⟩,
 ⟨.t 39, .len false (.t 38), none⟩,
 ⟨.l 40, .bin .eql (.t 39) (.c (.p (.i .i64 1))), none⟩]) (
 .cond (.l 40) (
 .seq (.reg [
 ⟨.t 41, .mv (.l 6), none⟩,
 ⟨.t 42, .ixs 7 (.t 41) (.c (.p (.i .i64 0))), none⟩,
 ⟨.t 43, .ld true 7 (.t 42), none⟩,
 ⟨.no, .sto 7 (.l 4) (.t 43), none⟩]) (
 .ret)) (
 .skip))) (
 .seq (.reg [
 ⟨.t 44, .mv (.l 6), none⟩,
 ⟨.t 45, .fad 0 (.l 5), none⟩,
 ⟨.no, .sto 1 (.t 45) (.c (.p (.i .i64 7))), none⟩,
 ⟨.t 46, .fad 5 (.l 5), none⟩,
 ⟨.no, .sto 1 (.t 46) (.t 44), none⟩]) (
 .seq (.reg [
 ⟨.t 47, .ld true 7 (.l 5), none⟩,
 ⟨.no, .sto 7 (.l 4) (.t 47), none⟩]) (
 .ret))))))))))
theorem mc55_eq : (Tryd.f55.body.map (compile lv55 Tryd.prog 48)) = some mc55 := by kernel_rfl
def mr55 : List MR := [.cell true 7 4]
theorem mr55_eq : cRess lv55 Tryd.prog Tryd.f55.results.toList = some mr55 := by kernel_rfl
theorem call55 {args : List AV} {H : List AO} {Q : AV → List AO → Prop} (hla : args.length ≤ 48) (h : wpm (ACall Tryd.prog) mc55 (finK mr55 Q) ⟨argEnv 0 args, [], H⟩) : ACall Tryd.prog 55 args H Q :=
  acall_mc (by kernel_rfl) Tryd.func55 mc55_eq Tryd.ntmps55 (by kernel_rfl) mr55_eq hla h
end Go.Proofs.YtpaaiigpnbiglaaDoor.Mc

/- Brackets: the parser's state, its smaller methods. -/
set_option linter.all false
namespace Go.Proofs.YtpaaiigpnbiglaaDoor.Dm
open Go.AM Mc

theorem wr64 {n : Int} (h1 : -9223372036854775808 ≤ n) (h2 : n ≤ 9223372036854775807) : wr .i64 n = n := by
  simp [wr, IntKind.wrap, IntKind.bits, IntKind.signed]
  omega
/-- a token -/
def tkC (k : Int) (s : List UInt8) (m p : Int) : List AV := [.p (.i .i64 k), .p (.s s), .p (.i .i64 m), .p (.i .i64 p)]
def tk (n i : Nat) : List AV := if i < n then tkC 7 [40] 0 i else if i = n then tkC 1 [] 7 n else if i ≤ 2 * n then tkC 7 [41] 0 i else tkC 8 [] 0 (2 * n + 1)
def tkR (n : Nat) : List (List AV) := (List.range (2 * n + 2)).map (tk n)
theorem tkR_at (n : Nat) {i : Nat} (h : i < 2 * n + 2) : (tkR n)[i]? = some (tk n i) := by simp [tkR, h]

def pC (n it vt a : Nat) (d cd ps : Int) : List AV := [.gs it vt 0 (2 * n + 2), .p (.i .i64 a), .p (.i .i64 40), .p (.i .i64 d), .p (.i .i64 cd), .p (.i .i64 ps)]
/-- the parser in memory -/
structure PS (n it vt ip : Nat) (H : List AO) (a : Nat) (d cd ps : Int) : Prop where
  pv : H[ip]? = some (.var (pC n it vt a d cd ps))
  tv : H[it]? = some (.rows 4 vt (tkR n))
  ha : a < 2 * n + 2
  hn : n ≤ 79
theorem PS.ext {n it vt ip H a d cd ps} (h : PS n it vt ip H a d cd ps) (A : List AO) : PS n it vt ip (H ++ A) a d cd ps := ⟨get_ext h.pv A, get_ext h.tv A, h.ha, h.hn⟩
theorem PS.ne {n it vt ip H a d cd ps} (h : PS n it vt ip H a d cd ps) : ip ≠ it := by
  rintro rfl
  have := h.pv; rw [h.tv] at this; cases this
theorem PS.set {n it vt ip H a d cd ps} (h : PS n it vt ip H a d cd ps) (a' : Nat) (d' cd' ps' : Int) (ha : a' < 2 * n + 2) : PS n it vt ip (H.set ip (.var (pC n it vt a' d' cd' ps'))) a' d' cd' ps' := ⟨set_get h.pv, get_set h.tv h.ne, ha, h.hn⟩
theorem PS.fr {n it vt ip H H' a d cd ps} (h : PS n it vt ip H a d cd ps) (k : ∀ (j : Nat) o, H[j]? = some o → H'[j]? = some o) : PS n it vt ip H' a d cd ps := ⟨k _ _ h.pv, k _ _ h.tv, h.ha, h.hn⟩
abbrev Q1 (ip : Nat) : Nat → Prop := fun j => j = ip

theorem pFailed {n it vt ip H a d cd ps} (h : PS n it vt ip H a d cd ps) : ACall Tryd.prog 10 [.ptr ip 0] H (pureQ (.p (.b (!decide (cd = 0)))) H) := by
  have hv := h.pv
  rw [pC] at hv
  refine call10 (by simp) ?_
  simp only [go_sem, Nat.reduceEqDiff, reduceIte, ↓reduceIte, Nat.reduceAdd, Z0, Z1, Z2, Z3, Z4, Z5, Nat.reduceLT, Z6, Z7, Int.reduceEq, Z8, Z9, Nat.reduceLeDiff, Za, Zb, Zc, Zd, Ze, Zf, bytesOf, Zg, Zh, Zi, Zj, Zk, Zl, Int.reduceLT, Int.reduceLE, Zm, Int.reduceToNat, Zn, Zo, Zp, Int.reduceAdd, Zq, Zr, mc10, mr10, hv]
  exact ⟨rfl, rfl⟩

theorem tf_tk (k s m p) : Tf (.st (tkC k s m p)) := tf_st _ (by intro c hc; simp [tkC] at hc; rcases hc with rfl | rfl | rfl | rfl <;> exact tf_p _)
theorem pNext {n it vt ip H a d cd ps k s m p} (h : PS n it vt ip H a d cd ps) (ht : tk n a = tkC k s m p) : ACall Tryd.prog 13 [.ptr ip 0] H (pureQ (.st (tkC k s m p)) H) := by
  have hv := h.pv
  rw [pC] at hv
  have hvx : ∀ A, (H ++ A)[ip]? = _ := fun A => get_ext hv A
  have htx : ∀ A, (H ++ A)[it]? = _ := fun A => get_ext h.tv A
  have hat := tkR_at n h.ha
  have ha := h.ha
  rw [ht] at hat
  have hci : (a : Int) < ((2 * n + 2 : Nat) : Int) := by omega
  refine acall_drop1 ?_ (tf_tk k s m p)
  refine call13 (by simp) ?_
  simp only [go_sem, Nat.reduceEqDiff, reduceIte, ↓reduceIte, Nat.reduceAdd, Z0, Z1, Z2, Z3, Z4, Z5, Nat.reduceLT, Z6, Z7, Int.reduceEq, Z8, Z9, Nat.reduceLeDiff, Za, Zb, Zc, Zd, Ze, Zf, bytesOf, Zg, Zh, Zi, Zj, Zk, Zl, Int.reduceLT, Int.reduceLE, Zm, Int.reduceToNat, Zn, Zo, Zp, Int.reduceAdd, Zq, Zr, mc13, mr13]
  refine drw_same ?_
  rw [tkC] at hat
  simp only [go_sem, Nat.reduceEqDiff, reduceIte, ↓reduceIte, Nat.reduceAdd, Z0, Z1, Z2, Z3, Z4, Z5, Nat.reduceLT, Z6, Z7, Int.reduceEq, Z8, Z9, Nat.reduceLeDiff, Za, Zb, Zc, Zd, Ze, Zf, bytesOf, Zg, Zh, Zi, Zj, Zk, Zl, Int.reduceLT, Int.reduceLE, Zm, Int.reduceToNat, Zn, Zo, Zp, Int.reduceAdd, Zq, Zr, hvx, htx, hat, hci, tkC]
  exact ⟨_, rfl⟩

theorem pKind {n it vt ip H a d cd ps k s m p} (h : PS n it vt ip H a d cd ps) (ht : tk n a = tkC k s m p) (q : Int) : ACall Tryd.prog 20 [.ptr ip 0, .p (.i .i64 q)] H (pureQ (.p (.b (decide (cd = 0) && decide (k = q)))) H) := by
  refine call20 (by simp) ?_
  simp only [go_sem, Nat.reduceEqDiff, reduceIte, ↓reduceIte, Nat.reduceAdd, Z0, Z1, Z2, Z3, Z4, Z5, Nat.reduceLT, Z6, Z7, Int.reduceEq, Z8, Z9, Nat.reduceLeDiff, Za, Zb, Zc, Zd, Ze, Zf, bytesOf, Zg, Zh, Zi, Zj, Zk, Zl, Int.reduceLT, Int.reduceLE, Zm, Int.reduceToNat, Zn, Zo, Zp, Int.reduceAdd, Zq, Zr, mc20, mr20]
  refine acall_pure (pFailed h) ?_
  by_cases hc : cd = 0
  · have dc : decide (cd = 0) = true := by simp [hc]
    simp only [go_sem, Nat.reduceEqDiff, reduceIte, ↓reduceIte, Nat.reduceAdd, Z0, Z1, Z2, Z3, Z4, Z5, Nat.reduceLT, Z6, Z7, Int.reduceEq, Z8, Z9, Nat.reduceLeDiff, Za, Zb, Zc, Zd, Ze, Zf, bytesOf, Zg, Zh, Zi, Zj, Zk, Zl, Int.reduceLT, Int.reduceLE, Zm, Int.reduceToNat, Zn, Zo, Zp, Int.reduceAdd, Zq, Zr, dc]
    refine acall_pure (pNext h ht) ?_
    simp only [go_sem, Nat.reduceEqDiff, reduceIte, ↓reduceIte, Nat.reduceAdd, Z0, Z1, Z2, Z3, Z4, Z5, Nat.reduceLT, Z6, Z7, Int.reduceEq, Z8, Z9, Nat.reduceLeDiff, Za, Zb, Zc, Zd, Ze, Zf, bytesOf, Zg, Zh, Zi, Zj, Zk, Zl, Int.reduceLT, Int.reduceLE, Zm, Int.reduceToNat, Zn, Zo, Zp, Int.reduceAdd, Zq, Zr, tkC]
    exact ⟨rfl, rfl⟩
  · have dc : decide (cd = 0) = false := by simp [hc]
    simp only [go_sem, Nat.reduceEqDiff, reduceIte, ↓reduceIte, Nat.reduceAdd, Z0, Z1, Z2, Z3, Z4, Z5, Nat.reduceLT, Z6, Z7, Int.reduceEq, Z8, Z9, Nat.reduceLeDiff, Za, Zb, Zc, Zd, Ze, Zf, bytesOf, Zg, Zh, Zi, Zj, Zk, Zl, Int.reduceLT, Int.reduceLE, Zm, Int.reduceToNat, Zn, Zo, Zp, Int.reduceAdd, Zq, Zr, dc]
    exact ⟨rfl, rfl⟩

theorem pIs {n it vt ip H a d cd ps k s m p} (h : PS n it vt ip H a d cd ps) (ht : tk n a = tkC k s m p) (t : List UInt8) : ACall Tryd.prog 25 [.ptr ip 0, .p (.s t)] H (pureQ (.p (.b (decide (cd = 0) && (decide (k = 6) || decide (k = 7)) && decide (s = t)))) H) := by
  refine acall_drop1 ?_ (tf_p _)
  refine call25 (by simp) ?_
  simp only [go_sem, Nat.reduceEqDiff, reduceIte, ↓reduceIte, Nat.reduceAdd, Z0, Z1, Z2, Z3, Z4, Z5, Nat.reduceLT, Z6, Z7, Int.reduceEq, Z8, Z9, Nat.reduceLeDiff, Za, Zb, Zc, Zd, Ze, Zf, bytesOf, Zg, Zh, Zi, Zj, Zk, Zl, Int.reduceLT, Int.reduceLE, Zm, Int.reduceToNat, Zn, Zo, Zp, Int.reduceAdd, Zq, Zr, mc25, mr25]
  refine acall_pure (pNext h ht) ?_
  simp only [go_sem, Nat.reduceEqDiff, reduceIte, ↓reduceIte, Nat.reduceAdd, Z0, Z1, Z2, Z3, Z4, Z5, Nat.reduceLT, Z6, Z7, Int.reduceEq, Z8, Z9, Nat.reduceLeDiff, Za, Zb, Zc, Zd, Ze, Zf, bytesOf, Zg, Zh, Zi, Zj, Zk, Zl, Int.reduceLT, Int.reduceLE, Zm, Int.reduceToNat, Zn, Zo, Zp, Int.reduceAdd, Zq, Zr, tkC]
  have hx := h.ext [.var (tkC k s m p)]
  rw [tkC] at hx
  refine acall_pure (pFailed hx) ?_
  by_cases hc : cd = 0
  · have dc : decide (cd = 0) = true := by simp [hc]
    simp only [go_sem, Nat.reduceEqDiff, reduceIte, ↓reduceIte, Nat.reduceAdd, Z0, Z1, Z2, Z3, Z4, Z5, Nat.reduceLT, Z6, Z7, Int.reduceEq, Z8, Z9, Nat.reduceLeDiff, Za, Zb, Zc, Zd, Ze, Zf, bytesOf, Zg, Zh, Zi, Zj, Zk, Zl, Int.reduceLT, Int.reduceLE, Zm, Int.reduceToNat, Zn, Zo, Zp, Int.reduceAdd, Zq, Zr, dc]
    by_cases h6 : k = 6
    · have d6 : decide (k = 6) = true := by simp [h6]
      simp only [go_sem, Nat.reduceEqDiff, reduceIte, ↓reduceIte, Nat.reduceAdd, Z0, Z1, Z2, Z3, Z4, Z5, Nat.reduceLT, Z6, Z7, Int.reduceEq, Z8, Z9, Nat.reduceLeDiff, Za, Zb, Zc, Zd, Ze, Zf, bytesOf, Zg, Zh, Zi, Zj, Zk, Zl, Int.reduceLT, Int.reduceLE, Zm, Int.reduceToNat, Zn, Zo, Zp, Int.reduceAdd, Zq, Zr, d6, Bool.true_or]
      exact ⟨_, rfl⟩
    · have d6 : decide (k = 6) = false := by simp [h6]
      simp only [go_sem, Nat.reduceEqDiff, reduceIte, ↓reduceIte, Nat.reduceAdd, Z0, Z1, Z2, Z3, Z4, Z5, Nat.reduceLT, Z6, Z7, Int.reduceEq, Z8, Z9, Nat.reduceLeDiff, Za, Zb, Zc, Zd, Ze, Zf, bytesOf, Zg, Zh, Zi, Zj, Zk, Zl, Int.reduceLT, Int.reduceLE, Zm, Int.reduceToNat, Zn, Zo, Zp, Int.reduceAdd, Zq, Zr, d6]
      by_cases h7 : k = 7
      · have d7 : decide (k = 7) = true := by simp [h7]
        simp only [go_sem, Nat.reduceEqDiff, reduceIte, ↓reduceIte, Nat.reduceAdd, Z0, Z1, Z2, Z3, Z4, Z5, Nat.reduceLT, Z6, Z7, Int.reduceEq, Z8, Z9, Nat.reduceLeDiff, Za, Zb, Zc, Zd, Ze, Zf, bytesOf, Zg, Zh, Zi, Zj, Zk, Zl, Int.reduceLT, Int.reduceLE, Zm, Int.reduceToNat, Zn, Zo, Zp, Int.reduceAdd, Zq, Zr, d7, Bool.false_or]
        exact ⟨_, rfl⟩
      · have d7 : decide (k = 7) = false := by simp [h7]
        simp only [go_sem, Nat.reduceEqDiff, reduceIte, ↓reduceIte, Nat.reduceAdd, Z0, Z1, Z2, Z3, Z4, Z5, Nat.reduceLT, Z6, Z7, Int.reduceEq, Z8, Z9, Nat.reduceLeDiff, Za, Zb, Zc, Zd, Ze, Zf, bytesOf, Zg, Zh, Zi, Zj, Zk, Zl, Int.reduceLT, Int.reduceLE, Zm, Int.reduceToNat, Zn, Zo, Zp, Int.reduceAdd, Zq, Zr, d7, Bool.or_self, Bool.false_and]
        exact ⟨_, rfl⟩
  · have dc : decide (cd = 0) = false := by simp [hc]
    simp only [go_sem, Nat.reduceEqDiff, reduceIte, ↓reduceIte, Nat.reduceAdd, Z0, Z1, Z2, Z3, Z4, Z5, Nat.reduceLT, Z6, Z7, Int.reduceEq, Z8, Z9, Nat.reduceLeDiff, Za, Zb, Zc, Zd, Ze, Zf, bytesOf, Zg, Zh, Zi, Zj, Zk, Zl, Int.reduceLT, Int.reduceLE, Zm, Int.reduceToNat, Zn, Zo, Zp, Int.reduceAdd, Zq, Zr, dc, Bool.false_and]
    exact ⟨_, rfl⟩

/-- a token that is not this one, or a fault -/
def Not (cd k : Int) (s t : List UInt8) : Prop := cd ≠ 0 ∨ (k ≠ 6 ∧ k ≠ 7) ∨ s ≠ t
theorem pTakeF {n it vt ip H a d cd ps k s m p} (h : PS n it vt ip H a d cd ps) (ht : tk n a = tkC k s m p) {t : List UInt8} (hn : Not cd k s t) : ACall Tryd.prog 15 [.ptr ip 0, .p (.s t)] H (pureQ (.p (.b false)) H) := by
  have e : (decide (cd = 0) && (decide (k = 6) || decide (k = 7)) && decide (s = t)) = false := by
    rcases hn with h | h | h <;> simp [h]
  have := pIs h ht t
  rw [e] at this
  refine call15 (by simp) ?_
  simp only [go_sem, Nat.reduceEqDiff, reduceIte, ↓reduceIte, Nat.reduceAdd, Z0, Z1, Z2, Z3, Z4, Z5, Nat.reduceLT, Z6, Z7, Int.reduceEq, Z8, Z9, Nat.reduceLeDiff, Za, Zb, Zc, Zd, Ze, Zf, bytesOf, Zg, Zh, Zi, Zj, Zk, Zl, Int.reduceLT, Int.reduceLE, Zm, Int.reduceToNat, Zn, Zo, Zp, Int.reduceAdd, Zq, Zr, mc15, mr15]
  refine acall_pure this ?_
  simp only [go_sem, Nat.reduceEqDiff, reduceIte, ↓reduceIte, Nat.reduceAdd, Z0, Z1, Z2, Z3, Z4, Z5, Nat.reduceLT, Z6, Z7, Int.reduceEq, Z8, Z9, Nat.reduceLeDiff, Za, Zb, Zc, Zd, Ze, Zf, bytesOf, Zg, Zh, Zi, Zj, Zk, Zl, Int.reduceLT, Int.reduceLE, Zm, Int.reduceToNat, Zn, Zo, Zp, Int.reduceAdd, Zq, Zr]
  exact ⟨rfl, rfl⟩
theorem pTakeT {n it vt ip H a d ps s m p} (h : PS n it vt ip H a d 0 ps) (ht : tk n a = tkC 7 s m p) : ACall Tryd.prog 15 [.ptr ip 0, .p (.s s)] H (pureQ (.p (.b true)) (H.set ip (.var (pC n it vt (a + 1) d 0 ps)))) := by
  have := pIs h ht s
  have e : (decide ((0 : Int) = 0) && (decide ((7 : Int) = 6) || decide ((7 : Int) = 7)) && decide (s = s)) = true := by simp
  rw [e] at this
  have hv := h.pv
  rw [pC] at hv
  have ha := h.ha
  have hn := h.hn
  have ew : wr .i64 ((a : Int) + 1) = ((a + 1 : Nat) : Int) := by rw [wr64 (by omega) (by omega)]; omega
  refine call15 (by simp) ?_
  simp only [go_sem, Nat.reduceEqDiff, reduceIte, ↓reduceIte, Nat.reduceAdd, Z0, Z1, Z2, Z3, Z4, Z5, Nat.reduceLT, Z6, Z7, Int.reduceEq, Z8, Z9, Nat.reduceLeDiff, Za, Zb, Zc, Zd, Ze, Zf, bytesOf, Zg, Zh, Zi, Zj, Zk, Zl, Int.reduceLT, Int.reduceLE, Zm, Int.reduceToNat, Zn, Zo, Zp, Int.reduceAdd, Zq, Zr, mc15, mr15]
  refine acall_pure this ?_
  simp only [go_sem, Nat.reduceEqDiff, reduceIte, ↓reduceIte, Nat.reduceAdd, Z0, Z1, Z2, Z3, Z4, Z5, Nat.reduceLT, Z6, Z7, Int.reduceEq, Z8, Z9, Nat.reduceLeDiff, Za, Zb, Zc, Zd, Ze, Zf, bytesOf, Zg, Zh, Zi, Zj, Zk, Zl, Int.reduceLT, Int.reduceLE, Zm, Int.reduceToNat, Zn, Zo, Zp, Int.reduceAdd, Zq, Zr, hv, ew]
  exact ⟨rfl, rfl⟩

theorem pFailS {n it vt ip H a d cd ps} (h : PS n it vt ip H a d cd ps) (hc : cd ≠ 0) (c : Int) : ACall Tryd.prog 21 [.ptr ip 0, .p (.i .i64 c)] H (pureQ (.tup []) H) := by
  have hv := h.pv
  rw [pC] at hv
  have dc : decide (cd = 0) = false := by simp [hc]
  refine call21 (by simp) ?_
  simp only [go_sem, Nat.reduceEqDiff, reduceIte, ↓reduceIte, Nat.reduceAdd, Z0, Z1, Z2, Z3, Z4, Z5, Nat.reduceLT, Z6, Z7, Int.reduceEq, Z8, Z9, Nat.reduceLeDiff, Za, Zb, Zc, Zd, Ze, Zf, bytesOf, Zg, Zh, Zi, Zj, Zk, Zl, Int.reduceLT, Int.reduceLE, Zm, Int.reduceToNat, Zn, Zo, Zp, Int.reduceAdd, Zq, Zr, mc21, mr21, hv, dc]
  exact ⟨rfl, rfl⟩
theorem pFailN {n it vt ip H a d ps k s m p} (h : PS n it vt ip H a d 0 ps) (ht : tk n a = tkC k s m p) (c : Int) : ACall Tryd.prog 21 [.ptr ip 0, .p (.i .i64 c)] H (pureQ (.tup []) (H.set ip (.var (pC n it vt a d c p)))) := by
  have hv := h.pv
  rw [pC] at hv
  refine call21 (by simp) ?_
  simp only [go_sem, Nat.reduceEqDiff, reduceIte, ↓reduceIte, Nat.reduceAdd, Z0, Z1, Z2, Z3, Z4, Z5, Nat.reduceLT, Z6, Z7, Int.reduceEq, Z8, Z9, Nat.reduceLeDiff, Za, Zb, Zc, Zd, Ze, Zf, bytesOf, Zg, Zh, Zi, Zj, Zk, Zl, Int.reduceLT, Int.reduceLE, Zm, Int.reduceToNat, Zn, Zo, Zp, Int.reduceAdd, Zq, Zr, mc21, mr21, hv]
  refine acall_pure (pNext h ht) ?_
  simp only [go_sem, Nat.reduceEqDiff, reduceIte, ↓reduceIte, Nat.reduceAdd, Z0, Z1, Z2, Z3, Z4, Z5, Nat.reduceLT, Z6, Z7, Int.reduceEq, Z8, Z9, Nat.reduceLeDiff, Za, Zb, Zc, Zd, Ze, Zf, bytesOf, Zg, Zh, Zi, Zj, Zk, Zl, Int.reduceLT, Int.reduceLE, Zm, Int.reduceToNat, Zn, Zo, Zp, Int.reduceAdd, Zq, Zr, tkC, hv]
  exact ⟨rfl, rfl⟩

/-- deep enough -/
theorem pDeeperT {n it vt ip H a d ps} (h : PS n it vt ip H a d 0 ps) {q : Int} (hq : q ≤ 40) : ACall Tryd.prog 12 [.ptr ip 0, .p (.i .i64 q)] H (fun r H' => r = .p (.b true) ∧ ∃ d', H' = H.set ip (.var (pC n it vt a d' 0 ps))) := by
  have hv := h.pv
  rw [pC] at hv
  have dq : decide ((40 : Int) < q) = false := by simp; omega
  refine call12 (by simp) ?_
  simp only [go_sem, Nat.reduceEqDiff, reduceIte, ↓reduceIte, Nat.reduceAdd, Z0, Z1, Z2, Z3, Z4, Z5, Nat.reduceLT, Z6, Z7, Int.reduceEq, Z8, Z9, Nat.reduceLeDiff, Za, Zb, Zc, Zd, Ze, Zf, bytesOf, Zg, Zh, Zi, Zj, Zk, Zl, Int.reduceLT, Int.reduceLE, Zm, Int.reduceToNat, Zn, Zo, Zp, Int.reduceAdd, Zq, Zr, mc12, mr12, hv, dq]
  refine acall_pure (pFailed h) ?_
  simp only [go_sem, Nat.reduceEqDiff, reduceIte, ↓reduceIte, Nat.reduceAdd, Z0, Z1, Z2, Z3, Z4, Z5, Nat.reduceLT, Z6, Z7, Int.reduceEq, Z8, Z9, Nat.reduceLeDiff, Za, Zb, Zc, Zd, Ze, Zf, bytesOf, Zg, Zh, Zi, Zj, Zk, Zl, Int.reduceLT, Int.reduceLE, Zm, Int.reduceToNat, Zn, Zo, Zp, Int.reduceAdd, Zq, Zr, hv]
  have fin : ∀ d', ACall Tryd.prog 10 [.ptr ip 0] (H.set ip (.var (pC n it vt a d' 0 ps))) (pureQ (.p (.b false)) (H.set ip (.var (pC n it vt a d' 0 ps)))) := fun d' => by
    have := pFailed (h.set a d' 0 ps h.ha)
    simpa using this
  refine acall_pure (fin _) ?_
  simp only [go_sem, Nat.reduceEqDiff, reduceIte, ↓reduceIte, Nat.reduceAdd, Z0, Z1, Z2, Z3, Z4, Z5, Nat.reduceLT, Z6, Z7, Int.reduceEq, Z8, Z9, Nat.reduceLeDiff, Za, Zb, Zc, Zd, Ze, Zf, bytesOf, Zg, Zh, Zi, Zj, Zk, Zl, Int.reduceLT, Int.reduceLE, Zm, Int.reduceToNat, Zn, Zo, Zp, Int.reduceAdd, Zq, Zr]
  exact ⟨_, rfl⟩
theorem pDeeperF {n it vt ip H a d ps k s m p} (h : PS n it vt ip H a d 0 ps) (ht : tk n a = tkC k s m p) {q : Int} (hq : 40 < q) : ACall Tryd.prog 12 [.ptr ip 0, .p (.i .i64 q)] H (pureQ (.p (.b false)) (H.set ip (.var (pC n it vt a d 12 p)))) := by
  have hv := h.pv
  rw [pC] at hv
  have dq : decide ((40 : Int) < q) = true := by simp; omega
  refine call12 (by simp) ?_
  simp only [go_sem, Nat.reduceEqDiff, reduceIte, ↓reduceIte, Nat.reduceAdd, Z0, Z1, Z2, Z3, Z4, Z5, Nat.reduceLT, Z6, Z7, Int.reduceEq, Z8, Z9, Nat.reduceLeDiff, Za, Zb, Zc, Zd, Ze, Zf, bytesOf, Zg, Zh, Zi, Zj, Zk, Zl, Int.reduceLT, Int.reduceLE, Zm, Int.reduceToNat, Zn, Zo, Zp, Int.reduceAdd, Zq, Zr, mc12, mr12, hv, dq]
  refine acall_pure (pFailN h ht 12) ?_
  simp only [go_sem, Nat.reduceEqDiff, reduceIte, ↓reduceIte, Nat.reduceAdd, Z0, Z1, Z2, Z3, Z4, Z5, Nat.reduceLT, Z6, Z7, Int.reduceEq, Z8, Z9, Nat.reduceLeDiff, Za, Zb, Zc, Zd, Ze, Zf, bytesOf, Zg, Zh, Zi, Zj, Zk, Zl, Int.reduceLT, Int.reduceLE, Zm, Int.reduceToNat, Zn, Zo, Zp, Int.reduceAdd, Zq, Zr]
  have h2 := h.set a d 12 p h.ha
  refine acall_pure (pFailed h2) ?_
  simp only [go_sem, Nat.reduceEqDiff, reduceIte, ↓reduceIte, Nat.reduceAdd, Z0, Z1, Z2, Z3, Z4, Z5, Nat.reduceLT, Z6, Z7, Int.reduceEq, Z8, Z9, Nat.reduceLeDiff, Za, Zb, Zc, Zd, Ze, Zf, bytesOf, Zg, Zh, Zi, Zj, Zk, Zl, Int.reduceLT, Int.reduceLE, Zm, Int.reduceToNat, Zn, Zo, Zp, Int.reduceAdd, Zq, Zr]
  refine acall_pure (pFailed h2) ?_
  simp only [go_sem, Nat.reduceEqDiff, reduceIte, ↓reduceIte, Nat.reduceAdd, Z0, Z1, Z2, Z3, Z4, Z5, Nat.reduceLT, Z6, Z7, Int.reduceEq, Z8, Z9, Nat.reduceLeDiff, Za, Zb, Zc, Zd, Ze, Zf, bytesOf, Zg, Zh, Zi, Zj, Zk, Zl, Int.reduceLT, Int.reduceLE, Zm, Int.reduceToNat, Zn, Zo, Zp, Int.reduceAdd, Zq, Zr]
  exact ⟨rfl, rfl⟩
end Go.Proofs.YtpaaiigpnbiglaaDoor.Dm

/- Brackets: words that are wanted; expressions of one kind. -/
set_option linter.all false
namespace Go.Proofs.YtpaaiigpnbiglaaDoor.Dm
open Go.AM Mc

theorem pWant {n it vt ip j v H H1 a d cd ps} {t : List UInt8} (h : PS n it vt ip H a d cd ps) (hj : H[j]? = some (.rows 1 v [[.p (.s t)]])) (hk : (∃ r, ACall Tryd.prog 15 [.ptr ip 0, .p (.s t)] H (pureQ (.p (.b r)) H1) ∧ (r = true ∨ (H1 = H ∧ cd ≠ 0)))) :
    ACall Tryd.prog 17 [.ptr ip 0, .gs j v 0 1] H (pureQ (.tup []) H1) := by
  obtain ⟨r, hk, hr⟩ := hk
  have hjx : ∀ A, (H ++ A)[j]? = _ := fun A => get_ext hj A
  refine call17 (by simp) ?_
  simp only [go_sem, Nat.reduceEqDiff, reduceIte, ↓reduceIte, Nat.reduceAdd, Z0, Z1, Z2, Z3, Z4, Z5, Nat.reduceLT, Z6, Z7, Int.reduceEq, Z8, Z9, Nat.reduceLeDiff, Za, Zb, Zc, Zd, Ze, Zf, bytesOf, Zg, Zh, Zi, Zj, Zk, Zl, Int.reduceLT, Int.reduceLE, Zm, Int.reduceToNat, Zn, Zo, Zp, Int.reduceAdd, Zq, Zr, mc17, mr17]
  intro _
  refine ⟨Nat × List AO, [0, 1, 6, 7, 8], fun x st => (x.1 = 0 ∧ x.2 = H ∨ x.1 = 1 ∧ x.2 = H1) ∧ st = ⟨[(0, .ptr ip 0), (1, .gs j v 0 1), (6, .gs j v 0 1), (7, .p (.i .i64 1)), (8, .p (.i .i64 x.1))], [], x.2⟩, fun x => 1 - x.1, ⟨(0, H), ?_⟩, ?_⟩
  · simp only [go_sem, Nat.reduceEqDiff, reduceIte, ↓reduceIte, Nat.reduceAdd, Z0, Z1, Z2, Z3, Z4, Z5, Nat.reduceLT, Z6, Z7, Int.reduceEq, Z8, Z9, Nat.reduceLeDiff, Za, Zb, Zc, Zd, Ze, Zf, bytesOf, Zg, Zh, Zi, Zj, Zk, Zl, Int.reduceLT, Int.reduceLE, Zm, Int.reduceToNat, Zn, Zo, Zp, Int.reduceAdd, Zq, Zr]
    exact .inl trivial
  · rintro ⟨i, H'⟩ st ⟨hi, rfl⟩
    simp only at hi
    rcases hi with ⟨rfl, rfl⟩ | ⟨rfl, rfl⟩
    · simp only [go_sem, Nat.reduceEqDiff, reduceIte, ↓reduceIte, Nat.reduceAdd, Z0, Z1, Z2, Z3, Z4, Z5, Nat.reduceLT, Z6, Z7, Int.reduceEq, Z8, Z9, Nat.reduceLeDiff, Za, Zb, Zc, Zd, Ze, Zf, bytesOf, Zg, Zh, Zi, Zj, Zk, Zl, Int.reduceLT, Int.reduceLE, Zm, Int.reduceToNat, Zn, Zo, Zp, Int.reduceAdd, Zq, Zr, hj]
      refine acall_pure hk ?_
      have e1 : wr .i64 (1 : Int) = 1 := by decide
      rcases hr with rfl | ⟨rfl, hcd⟩
      · simp only [go_sem, Nat.reduceEqDiff, reduceIte, ↓reduceIte, Nat.reduceAdd, Z0, Z1, Z2, Z3, Z4, Z5, Nat.reduceLT, Z6, Z7, Int.reduceEq, Z8, Z9, Nat.reduceLeDiff, Za, Zb, Zc, Zd, Ze, Zf, bytesOf, Zg, Zh, Zi, Zj, Zk, Zl, Int.reduceLT, Int.reduceLE, Zm, Int.reduceToNat, Zn, Zo, Zp, Int.reduceAdd, Zq, Zr, e1]
        exact ⟨(1, H1), ⟨.inr ⟨rfl, rfl⟩, rfl⟩, by simp⟩
      · cases r
        · simp only [go_sem, Nat.reduceEqDiff, reduceIte, ↓reduceIte, Nat.reduceAdd, Z0, Z1, Z2, Z3, Z4, Z5, Nat.reduceLT, Z6, Z7, Int.reduceEq, Z8, Z9, Nat.reduceLeDiff, Za, Zb, Zc, Zd, Ze, Zf, bytesOf, Zg, Zh, Zi, Zj, Zk, Zl, Int.reduceLT, Int.reduceLE, Zm, Int.reduceToNat, Zn, Zo, Zp, Int.reduceAdd, Zq, Zr]
          refine acall_pure (pFailS h hcd 11) ?_
          simp only [go_sem, Nat.reduceEqDiff, reduceIte, ↓reduceIte, Nat.reduceAdd, Z0, Z1, Z2, Z3, Z4, Z5, Nat.reduceLT, Z6, Z7, Int.reduceEq, Z8, Z9, Nat.reduceLeDiff, Za, Zb, Zc, Zd, Ze, Zf, bytesOf, Zg, Zh, Zi, Zj, Zk, Zl, Int.reduceLT, Int.reduceLE, Zm, Int.reduceToNat, Zn, Zo, Zp, Int.reduceAdd, Zq, Zr, e1]
          exact ⟨(1, _), ⟨.inr ⟨rfl, rfl⟩, rfl⟩, by simp⟩
        · simp only [go_sem, Nat.reduceEqDiff, reduceIte, ↓reduceIte, Nat.reduceAdd, Z0, Z1, Z2, Z3, Z4, Z5, Nat.reduceLT, Z6, Z7, Int.reduceEq, Z8, Z9, Nat.reduceLeDiff, Za, Zb, Zc, Zd, Ze, Zf, bytesOf, Zg, Zh, Zi, Zj, Zk, Zl, Int.reduceLT, Int.reduceLE, Zm, Int.reduceToNat, Zn, Zo, Zp, Int.reduceAdd, Zq, Zr, e1]
          exact ⟨(1, _), ⟨.inr ⟨rfl, rfl⟩, rfl⟩, by simp⟩
    · simp only [go_sem, Nat.reduceEqDiff, reduceIte, ↓reduceIte, Nat.reduceAdd, Z0, Z1, Z2, Z3, Z4, Z5, Nat.reduceLT, Z6, Z7, Int.reduceEq, Z8, Z9, Nat.reduceLeDiff, Za, Zb, Zc, Zd, Ze, Zf, bytesOf, Zg, Zh, Zi, Zj, Zk, Zl, Int.reduceLT, Int.reduceLE, Zm, Int.reduceToNat, Zn, Zo, Zp, Int.reduceAdd, Zq, Zr]
      exact ⟨rfl, rfl⟩
theorem pWantT {n it vt ip j v H a d ps s m p} (h : PS n it vt ip H a d 0 ps) (ht : tk n a = tkC 7 s m p) (hj : H[j]? = some (.rows 1 v [[.p (.s s)]])) :
    ACall Tryd.prog 17 [.ptr ip 0, .gs j v 0 1] H (pureQ (.tup []) (H.set ip (.var (pC n it vt (a + 1) d 0 ps)))) :=
  pWant h hj ⟨true, pTakeT h ht, .inl rfl⟩
theorem pWantS {n it vt ip j v H a d cd ps} {t : List UInt8} (h : PS n it vt ip H a d cd ps) (hc : cd ≠ 0) {k s m p} (ht : tk n a = tkC k s m p) (hj : H[j]? = some (.rows 1 v [[.p (.s t)]])) :
    ACall Tryd.prog 17 [.ptr ip 0, .gs j v 0 1] H (pureQ (.tup []) H) :=
  pWant h hj ⟨false, pTakeF h ht (.inl hc), .inr ⟨rfl, hc⟩⟩

/-- an expression that is a number; none -/
def eC (p : Int) : List AV := [.p (.i .i64 1), .p (.s []), .p (.i .i64 7), .p (.s []), .p (.i .i64 p), .p .nl, .p .nl]
def eZ : List AV := [.p (.i .i64 0), .p (.s []), .p (.i .i64 0), .p (.s []), .p (.i .i64 0), .p .nl, .p .nl]
def eR (n : Nat) : List AV := if n ≤ 39 then eC n else eZ
theorem eR_eq (n : Nat) : ∃ k m p, eR n = [.p (.i .i64 k), .p (.s []), .p (.i .i64 m), .p (.s []), .p (.i .i64 p), .p .nl, .p .nl] := by
  unfold eR; split
  · exact ⟨_, _, _, rfl⟩
  · exact ⟨_, _, _, rfl⟩

theorem tk_open {n i : Nat} (h : i < n) : tk n i = tkC 7 [40] 0 i := by simp [tk, h]
theorem tk_num (n : Nat) : tk n n = tkC 1 [] 7 n := by simp [tk]
theorem tk_close {n i : Nat} (h : n < i) (h2 : i ≤ 2 * n) : tk n i = tkC 7 [41] 0 i := by simp [tk, show ¬ i < n by omega, show ¬ i = n by omega, h2]
theorem tk_end (n : Nat) : tk n (2 * n + 1) = tkC 8 [] 0 (2 * n + 1) := by simp [tk, show ¬ (2 * n + 1 < n) by omega, show ¬ (2 * n + 1 = n) by omega, show ¬ (2 * n + 1 ≤ 2 * n) by omega]
theorem tk_any (n i : Nat) : ∃ k s m p, tk n i = tkC k s m p := by
  unfold tk; split
  · exact ⟨_, _, _, _, rfl⟩
  split
  · exact ⟨_, _, _, _, rfl⟩
  split
  · exact ⟨_, _, _, _, rfl⟩
  · exact ⟨_, _, _, _, rfl⟩

/-- behind an expression that began at i -/
structure Aft (n it vt ip i : Nat) (H : List AO) : Prop where
  ex : ∃ a d cd ps, PS n it vt ip H a d cd ps ∧ ((n ≤ 39 ∧ cd = 0 ∧ a = 2 * n + 1 - i) ∨ (39 < n ∧ cd = 12 ∧ ps = 40))
theorem Aft.ext {n it vt ip i H} (h : Aft n it vt ip i H) (A : List AO) : Aft n it vt ip i (H ++ A) := by
  obtain ⟨a, d, cd, ps, h1, h2⟩ := h.ex
  exact ⟨a, d, cd, ps, h1.ext A, h2⟩
theorem Aft.fr {n it vt ip i H H'} (h : Aft n it vt ip i H) (k : ∀ (j : Nat) o, H[j]? = some o → H'[j]? = some o) : Aft n it vt ip i H' := by
  obtain ⟨a, d, cd, ps, h1, h2⟩ := h.ex
  exact ⟨a, d, cd, ps, h1.fr k, h2⟩
/-- no sign but a bracket that closes stands there -/
theorem aftTok {n it vt ip i H} (h : Aft n it vt ip i H) (hi : i ≤ n) : ∃ a d cd ps k s m p, PS n it vt ip H a d cd ps ∧ tk n a = tkC k s m p ∧ (∀ t : List UInt8, t ≠ [41] → Not cd k s t) ∧ (cd ≠ 0 ∨ k = 8 ∨ (k = 7 ∧ s = [41])) := by
  obtain ⟨a, d, cd, ps, h1, h2⟩ := h.ex
  rcases h2 with ⟨hn, rfl, rfl⟩ | ⟨hn, rfl, rfl⟩
  · by_cases h0 : i = 0
    · subst h0
      exact ⟨_, d, 0, ps, 8, [], 0, _, h1, tk_end n, fun t _ => .inr (.inl (by decide)), .inr (.inl rfl)⟩
    · exact ⟨_, d, 0, ps, 7, [41], 0, _, h1, tk_close (by omega) (by omega), fun t ht => .inr (.inr (Ne.symm ht)), .inr (.inr ⟨rfl, rfl⟩)⟩
  · obtain ⟨k, s, m, p, e⟩ := tk_any n a
    exact ⟨a, d, 12, 40, k, s, m, p, h1, e, fun t _ => .inl (by decide), .inl (by decide)⟩

/-- a function that reads an expression at i, so deep -/
def Reads (n it vt ip i : Nat) (f : Nat) (args : List AV) (H : List AO) : Prop :=
  ACall Tryd.prog f args H (fun r H' => r = .st (eR n) ∧ Aft n it vt ip i H' ∧ Fr (Q1 ip) (Q1 ip) H H')

theorem pAtomNext {n it vt ip i H} (h : Aft n it vt ip i H) (hi : i ≤ n) : ACall Tryd.prog 49 [.ptr ip 0] H (pureQ (.p (.b false)) H) := by
  obtain ⟨a, d, cd, ps, k, s, m, p, hP, ht, hno, hk⟩ := aftTok h hi
  have kk : ∀ q : Int, q ≠ 7 → q ≠ 8 → (decide (cd = 0) && decide (k = q)) = false := by
    intro q h7 h8
    rcases hk with h | h | ⟨h, _⟩
    · simp [h]
    · subst h; simp; intro _ e; exact h8 e.symm
    · subst h; simp; intro _ e; exact h7 e.symm
  have ki : ∀ t : List UInt8, t ≠ [41] → (decide (cd = 0) && (decide (k = 6) || decide (k = 7)) && decide (s = t)) = false := by
    intro t ht
    rcases hno t ht with h | h | h <;> simp [h]
  refine call49 (by simp) ?_
  simp only [go_sem, Nat.reduceEqDiff, reduceIte, ↓reduceIte, Nat.reduceAdd, Z0, Z1, Z2, Z3, Z4, Z5, Nat.reduceLT, Z6, Z7, Int.reduceEq, Z8, Z9, Nat.reduceLeDiff, Za, Zb, Zc, Zd, Ze, Zf, bytesOf, Zg, Zh, Zi, Zj, Zk, Zl, Int.reduceLT, Int.reduceLE, Zm, Int.reduceToNat, Zn, Zo, Zp, Int.reduceAdd, Zq, Zr, mc49, mr49]
  refine acall_pure (pKind hP ht 1) ?_
  simp only [go_sem, Nat.reduceEqDiff, reduceIte, ↓reduceIte, Nat.reduceAdd, Z0, Z1, Z2, Z3, Z4, Z5, Nat.reduceLT, Z6, Z7, Int.reduceEq, Z8, Z9, Nat.reduceLeDiff, Za, Zb, Zc, Zd, Ze, Zf, bytesOf, Zg, Zh, Zi, Zj, Zk, Zl, Int.reduceLT, Int.reduceLE, Zm, Int.reduceToNat, Zn, Zo, Zp, Int.reduceAdd, Zq, Zr, kk 1 (by decide) (by decide)]
  refine acall_pure (pKind hP ht 2) ?_
  simp only [go_sem, Nat.reduceEqDiff, reduceIte, ↓reduceIte, Nat.reduceAdd, Z0, Z1, Z2, Z3, Z4, Z5, Nat.reduceLT, Z6, Z7, Int.reduceEq, Z8, Z9, Nat.reduceLeDiff, Za, Zb, Zc, Zd, Ze, Zf, bytesOf, Zg, Zh, Zi, Zj, Zk, Zl, Int.reduceLT, Int.reduceLE, Zm, Int.reduceToNat, Zn, Zo, Zp, Int.reduceAdd, Zq, Zr, kk 2 (by decide) (by decide)]
  refine acall_pure (pKind hP ht 3) ?_
  simp only [go_sem, Nat.reduceEqDiff, reduceIte, ↓reduceIte, Nat.reduceAdd, Z0, Z1, Z2, Z3, Z4, Z5, Nat.reduceLT, Z6, Z7, Int.reduceEq, Z8, Z9, Nat.reduceLeDiff, Za, Zb, Zc, Zd, Ze, Zf, bytesOf, Zg, Zh, Zi, Zj, Zk, Zl, Int.reduceLT, Int.reduceLE, Zm, Int.reduceToNat, Zn, Zo, Zp, Int.reduceAdd, Zq, Zr, kk 3 (by decide) (by decide)]
  refine acall_pure (pKind hP ht 4) ?_
  simp only [go_sem, Nat.reduceEqDiff, reduceIte, ↓reduceIte, Nat.reduceAdd, Z0, Z1, Z2, Z3, Z4, Z5, Nat.reduceLT, Z6, Z7, Int.reduceEq, Z8, Z9, Nat.reduceLeDiff, Za, Zb, Zc, Zd, Ze, Zf, bytesOf, Zg, Zh, Zi, Zj, Zk, Zl, Int.reduceLT, Int.reduceLE, Zm, Int.reduceToNat, Zn, Zo, Zp, Int.reduceAdd, Zq, Zr, kk 4 (by decide) (by decide)]
  refine acall_pure (pIs hP ht _) ?_
  simp only [go_sem, Nat.reduceEqDiff, reduceIte, ↓reduceIte, Nat.reduceAdd, Z0, Z1, Z2, Z3, Z4, Z5, Nat.reduceLT, Z6, Z7, Int.reduceEq, Z8, Z9, Nat.reduceLeDiff, Za, Zb, Zc, Zd, Ze, Zf, bytesOf, Zg, Zh, Zi, Zj, Zk, Zl, Int.reduceLT, Int.reduceLE, Zm, Int.reduceToNat, Zn, Zo, Zp, Int.reduceAdd, Zq, Zr, ki [116, 114, 117, 101] (by decide)]
  refine acall_pure (pIs hP ht _) ?_
  simp only [go_sem, Nat.reduceEqDiff, reduceIte, ↓reduceIte, Nat.reduceAdd, Z0, Z1, Z2, Z3, Z4, Z5, Nat.reduceLT, Z6, Z7, Int.reduceEq, Z8, Z9, Nat.reduceLeDiff, Za, Zb, Zc, Zd, Ze, Zf, bytesOf, Zg, Zh, Zi, Zj, Zk, Zl, Int.reduceLT, Int.reduceLE, Zm, Int.reduceToNat, Zn, Zo, Zp, Int.reduceAdd, Zq, Zr, ki [102, 97, 108, 115, 101] (by decide)]
  refine acall_pure (pIs hP ht _) ?_
  simp only [go_sem, Nat.reduceEqDiff, reduceIte, ↓reduceIte, Nat.reduceAdd, Z0, Z1, Z2, Z3, Z4, Z5, Nat.reduceLT, Z6, Z7, Int.reduceEq, Z8, Z9, Nat.reduceLeDiff, Za, Zb, Zc, Zd, Ze, Zf, bytesOf, Zg, Zh, Zi, Zj, Zk, Zl, Int.reduceLT, Int.reduceLE, Zm, Int.reduceToNat, Zn, Zo, Zp, Int.reduceAdd, Zq, Zr, ki [114, 101, 97, 100] (by decide)]
  refine acall_pure (pIs hP ht _) ?_
  simp only [go_sem, Nat.reduceEqDiff, reduceIte, ↓reduceIte, Nat.reduceAdd, Z0, Z1, Z2, Z3, Z4, Z5, Nat.reduceLT, Z6, Z7, Int.reduceEq, Z8, Z9, Nat.reduceLeDiff, Za, Zb, Zc, Zd, Ze, Zf, bytesOf, Zg, Zh, Zi, Zj, Zk, Zl, Int.reduceLT, Int.reduceLE, Zm, Int.reduceToNat, Zn, Zo, Zp, Int.reduceAdd, Zq, Zr, ki [40] (by decide)]
  exact ⟨rfl, rfl⟩
end Go.Proofs.YtpaaiigpnbiglaaDoor.Dm

/- Brackets: atoms, brackets. -/
set_option linter.all false
namespace Go.Proofs.YtpaaiigpnbiglaaDoor.Dm
open Go.AM Mc

theorem frQ {ip : Nat} {H : List AO} (o : AO) : Fr (Q1 ip) (Q1 ip) H (H.set ip o) := Fr.set o rfl
theorem finR {n it vt ip H H' a0 d0 c0 p0 a d cd ps} (h : PS n it vt ip H a0 d0 c0 p0) (hv : H'[ip]? = some (.var (pC n it vt a d cd ps))) (k : ∀ (j : Nat) o, H[j]? = some o → j ≠ ip → H'[j]? = some o) (hl : H.length ≤ H'.length) (ha : a < 2 * n + 2) :
    PS n it vt ip H' a d cd ps ∧ Fr (Q1 ip) (Q1 ip) H H' :=
  ⟨⟨hv, k _ _ h.tv (Ne.symm h.ne), ha, h.hn⟩, ⟨fun j o hj hp => k j o hj hp, fun _ h => .inl h, hl⟩⟩

/-- the number -/
theorem pNum {n it vt ip H d} (h : PS n it vt ip H n d 0 0) (hn : n ≤ 39) (q : Int) : Reads n it vt ip n 50 [.ptr ip 0, .p (.i .i64 q)] H := by
  have hip := get_lt h.pv
  have ht := tk_num n
  have hd1 := h.ext [.var eZ]
  have e0 : ([.p (.i .i64 0), .p (.s []), .p (.i .i64 0), .p (.s []), .p (.i .i64 0), .p .nl, .p .nl] : List AV) = eZ := rfl
  refine call50 (by simp) ?_
  simp only [go_sem, Nat.reduceEqDiff, reduceIte, ↓reduceIte, Nat.reduceAdd, Z0, Z1, Z2, Z3, Z4, Z5, Nat.reduceLT, Z6, Z7, Int.reduceEq, Z8, Z9, Nat.reduceLeDiff, Za, Zb, Zc, Zd, Ze, Zf, bytesOf, Zg, Zh, Zi, Zj, Zk, Zl, Int.reduceLT, Int.reduceLE, Zm, Int.reduceToNat, Zn, Zo, Zp, Int.reduceAdd, Zq, Zr, mc50, mr50, zl3_0]
  have hP1 := h.ext [.var [.p (.i .i64 0), .p (.s []), .p (.i .i64 0), .p (.s []), .p (.i .i64 0), .p .nl, .p .nl]]
  refine acall_pure (pNext hP1 ht) ?_
  simp only [go_sem, Nat.reduceEqDiff, reduceIte, ↓reduceIte, Nat.reduceAdd, Z0, Z1, Z2, Z3, Z4, Z5, Nat.reduceLT, Z6, Z7, Int.reduceEq, Z8, Z9, Nat.reduceLeDiff, Za, Zb, Zc, Zd, Ze, Zf, bytesOf, Zg, Zh, Zi, Zj, Zk, Zl, Int.reduceLT, Int.reduceLE, Zm, Int.reduceToNat, Zn, Zo, Zp, Int.reduceAdd, Zq, Zr, tkC]
  have hP := h.ext [AO.var [.p (.i .i64 0), .p (.s []), .p (.i .i64 0), .p (.s []), .p (.i .i64 0), .p .nl, .p .nl], .var [.p (.i .i64 1), .p (.s []), .p (.i .i64 7), .p (.i .i64 n)], .var [.p (.i .i64 0), .p (.s []), .p (.i .i64 0), .p (.s []), .p (.i .i64 n), .p .nl, .p .nl]]
  have hfr := Fr.ext (Q1 ip) H [AO.var [.p (.i .i64 0), .p (.s []), .p (.i .i64 0), .p (.s []), .p (.i .i64 0), .p .nl, .p .nl], .var [.p (.i .i64 1), .p (.s []), .p (.i .i64 7), .p (.i .i64 n)], .var [.p (.i .i64 0), .p (.s []), .p (.i .i64 0), .p (.s []), .p (.i .i64 n), .p .nl, .p .nl]]
  have h4 : (H ++ [AO.var [.p (.i .i64 0), .p (.s []), .p (.i .i64 0), .p (.s []), .p (.i .i64 0), .p .nl, .p .nl], .var [.p (.i .i64 1), .p (.s []), .p (.i .i64 7), .p (.i .i64 n)], .var [.p (.i .i64 0), .p (.s []), .p (.i .i64 0), .p (.s []), .p (.i .i64 n), .p .nl, .p .nl]])[H.length]? = _ := get_off0 _ _
  have h5 : (H ++ [AO.var [.p (.i .i64 0), .p (.s []), .p (.i .i64 0), .p (.s []), .p (.i .i64 0), .p .nl, .p .nl], .var [.p (.i .i64 1), .p (.s []), .p (.i .i64 7), .p (.i .i64 n)], .var [.p (.i .i64 0), .p (.s []), .p (.i .i64 0), .p (.s []), .p (.i .i64 n), .p .nl, .p .nl]])[H.length + 1]? = some (.var [.p (.i .i64 1), .p (.s []), .p (.i .i64 7), .p (.i .i64 n)]) := by rw [get_off]; rfl
  have h6 : (H ++ [AO.var [.p (.i .i64 0), .p (.s []), .p (.i .i64 0), .p (.s []), .p (.i .i64 0), .p .nl, .p .nl], .var [.p (.i .i64 1), .p (.s []), .p (.i .i64 7), .p (.i .i64 n)], .var [.p (.i .i64 0), .p (.s []), .p (.i .i64 0), .p (.s []), .p (.i .i64 n), .p .nl, .p .nl]])[H.length + 2]? = some (.var [.p (.i .i64 0), .p (.s []), .p (.i .i64 0), .p (.s []), .p (.i .i64 n), .p .nl, .p .nl]) := by rw [get_off]; rfl
  replace h4 : (H ++ [AO.var [.p (.i .i64 0), .p (.s []), .p (.i .i64 0), .p (.s []), .p (.i .i64 0), .p .nl, .p .nl], .var [.p (.i .i64 1), .p (.s []), .p (.i .i64 7), .p (.i .i64 n)], .var [.p (.i .i64 0), .p (.s []), .p (.i .i64 0), .p (.s []), .p (.i .i64 n), .p .nl, .p .nl]])[H.length]? = some (.var [.p (.i .i64 0), .p (.s []), .p (.i .i64 0), .p (.s []), .p (.i .i64 0), .p .nl, .p .nl]) := h4
  generalize H ++ [AO.var [.p (.i .i64 0), .p (.s []), .p (.i .i64 0), .p (.s []), .p (.i .i64 0), .p .nl, .p .nl], .var [.p (.i .i64 1), .p (.s []), .p (.i .i64 7), .p (.i .i64 n)], .var [.p (.i .i64 0), .p (.s []), .p (.i .i64 0), .p (.s []), .p (.i .i64 n), .p .nl, .p .nl]] = H1 at hP hfr h4 h5 h6 ⊢
  generalize hb : H.length = b at h4 h5 h6 hip ⊢
  refine acall_pure (pKind hP ht 1) ?_
  simp only [go_sem, Nat.reduceEqDiff, reduceIte, ↓reduceIte, Nat.reduceAdd, Z0, Z1, Z2, Z3, Z4, Z5, Nat.reduceLT, Z6, Z7, Int.reduceEq, Z8, Z9, Nat.reduceLeDiff, Za, Zb, Zc, Zd, Ze, Zf, bytesOf, Zg, Zh, Zi, Zj, Zk, Zl, Int.reduceLT, Int.reduceLE, Zm, Int.reduceToNat, Zn, Zo, Zp, Int.reduceAdd, Zq, Zr]
  have hv := hP.pv
  rw [pC] at hv
  have ew : wr .i64 ((n : Int) + 1) = ((n + 1 : Nat) : Int) := by rw [wr64 (by omega) (by omega)]; omega
  have n1 : b + 2 ≠ ip := by omega
  have n2 : b ≠ ip := by omega
  have n3 : b + 2 ≠ b := by omega
  have n4 : b + 2 ≠ b + 1 := by omega
  refine ⟨H1.set (b + 2) .dead, dead_ext _ _, ?_⟩
  have h5d : (H1.set (b + 2) .dead)[b + 1]? = _ := get_set h5 n4
  simp only [go_sem, Nat.reduceEqDiff, reduceIte, ↓reduceIte, Nat.reduceAdd, Z0, Z1, Z2, Z3, Z4, Z5, Nat.reduceLT, Z6, Z7, Int.reduceEq, Z8, Z9, Nat.reduceLeDiff, Za, Zb, Zc, Zd, Ze, Zf, bytesOf, Zg, Zh, Zi, Zj, Zk, Zl, Int.reduceLT, Int.reduceLE, Zm, Int.reduceToNat, Zn, Zo, Zp, Int.reduceAdd, Zq, Zr, h5d]
  have h6d : (H1.set (b + 2) .dead)[b + 2]? = some .dead := set_get h6
  simp only [go_sem, Nat.reduceEqDiff, reduceIte, ↓reduceIte, Nat.reduceAdd, Z0, Z1, Z2, Z3, Z4, Z5, Nat.reduceLT, Z6, Z7, Int.reduceEq, Z8, Z9, Nat.reduceLeDiff, Za, Zb, Zc, Zd, Ze, Zf, bytesOf, Zg, Zh, Zi, Zj, Zk, Zl, Int.reduceLT, Int.reduceLE, Zm, Int.reduceToNat, Zn, Zo, Zp, Int.reduceAdd, Zq, Zr, h6, h6d]
  refine ⟨by simp, dead_ext' _ _ _, ?_⟩
  have h6e : (H1.set (b + 2) (.var [.p (.i .i64 1), .p (.s []), .p (.i .i64 0), .p (.s []), .p (.i .i64 n), .p .nl, .p .nl]))[b + 2]? = some (.var [.p (.i .i64 1), .p (.s []), .p (.i .i64 0), .p (.s []), .p (.i .i64 n), .p .nl, .p .nl]) := set_get h6
  have hvs : ∀ o o' : AO, ((H1.set (b + 2) o).set (b + 2) o')[ip]? = _ := fun o o' => get_set (get_set hv n1) n1
  have h4s : ∀ o o' o'' : AO, (((H1.set (b + 2) o).set (b + 2) o').set ip o'')[b]? = _ := fun o o' o'' => get_set (get_set (get_set h4 n3) n3) n2.symm
  have h6s : ∀ o o' o'' : AO, (((H1.set (b + 2) o).set (b + 2) o').set ip o'')[b + 2]? = some o' := fun o o' o'' => get_set (set_get (set_get h6)) n1.symm
  have h4t : ∀ o o' o'' o3 : AO, ((((H1.set (b + 2) o).set (b + 2) o').set ip o'').set b o3)[b]? = some o3 := fun o o' o'' o3 => set_get (h4s o o' o'')
  simp only [go_sem, Nat.reduceEqDiff, reduceIte, ↓reduceIte, Nat.reduceAdd, Z0, Z1, Z2, Z3, Z4, Z5, Nat.reduceLT, Z6, Z7, Int.reduceEq, Z8, Z9, Nat.reduceLeDiff, Za, Zb, Zc, Zd, Ze, Zf, bytesOf, Zg, Zh, Zi, Zj, Zk, Zl, Int.reduceLT, Int.reduceLE, Zm, Int.reduceToNat, Zn, Zo, Zp, Int.reduceAdd, Zq, Zr, h6e, hvs, h4s, h6s, h4t, ew]
  refine ⟨by simp [eR, hn, eC], ?_⟩
  have hvt : ∀ o o' o'' o3 : AO, ((((H1.set (b + 2) o).set (b + 2) o').set ip o'').set b o3)[ip]? = some o'' := fun o o' o'' o3 => get_set (set_get (hvs o o')) n2
  obtain ⟨f1, f2⟩ := finR h (hvt _ _ _ _) (fun j o hj hne => get_set (get_set (get_set (get_set (hfr.keep j o hj hne) (by have := get_lt hj; omega)) (by have := get_lt hj; omega)) (Ne.symm hne)) (by have := get_lt hj; omega)) (by simpa using hfr.len) (a := n + 1) (d := d) (cd := 0) (ps := 0) (by omega)
  exact ⟨⟨_, _, _, _, f1, .inl ⟨hn, rfl, by omega⟩⟩, f2⟩
end Go.Proofs.YtpaaiigpnbiglaaDoor.Dm

/- Brackets: what stands between them. -/
set_option linter.all false
namespace Go.Proofs.YtpaaiigpnbiglaaDoor.Dm
open Go.AM Mc

/-- from a place on, at a depth -/
def RdAt (n it vt i f : Nat) (q : Int) : Prop := ∀ ip d H, PS n it vt ip H i d 0 0 → Reads n it vt ip i f [.ptr ip 0, .p (.i .i64 q)] H
theorem wrS {q : Int} (h : 0 ≤ q) (h2 : q ≤ 100) : wr .i64 (q + 1) = q + 1 := wr64 (by omega) (by omega)

theorem tkIn {n i : Nat} (h : i < n) : ∃ k s m p, tk n (i + 1) = tkC k s m p ∧ ∀ t : List UInt8, t ≠ [40] → Not 0 k s t := by
  by_cases h2 : i + 1 < n
  · exact ⟨_, _, _, _, tk_open h2, fun t ht => .inr (.inr (Ne.symm ht))⟩
  · have : i + 1 = n := by omega
    rw [this]
    exact ⟨_, _, _, _, tk_num n, fun t ht => .inr (.inl ⟨by decide, by decide⟩)⟩

theorem acall_gen {P : Program} {f : Nat} {xs : List AV} {H H0 : List AO} {r0 : AV} {Q : AV → List AO → Prop} (h : ACall P f xs H (pureQ r0 H0)) (Z : List AO → Prop) (hz : Z H0) (k : ∀ H1, Z H1 → Q r0 H1) : ACall P f xs H Q :=
  h.mono (by rintro r H' ⟨rfl, rfl⟩; exact k _ hz)

theorem Aft.put {n it vt ip i H b} (h : Aft n it vt ip i H) (h1 : ip < b) (h2 : it < b) (o : AO) : Aft n it vt ip i (H.set b o) := by
  obtain ⟨a, d, cd, ps, hP, hw⟩ := h.ex
  exact ⟨a, d, cd, ps, ⟨get_set hP.pv (by omega), get_set hP.tv (by omega), hP.ha, hP.hn⟩, hw⟩
theorem pWantClose {n it vt ip i j v H} (h : Aft n it vt ip (i + 1) H) (hi : i < n) (hj : H[j]? = some (.rows 1 v [[.p (.s [41])]])) :
    ACall Tryd.prog 17 [.ptr ip 0, .gs j v 0 1] H (fun r H' => r = .tup [] ∧ Aft n it vt ip i H' ∧ Fr (Q1 ip) (Q1 ip) H H') := by
  obtain ⟨a, d, cd, ps, hP, h2⟩ := h.ex
  rcases h2 with ⟨hn, rfl, rfl⟩ | ⟨hn, rfl, rfl⟩
  · refine acall_pure (pWantT hP (tk_close (by omega) (by omega)) hj) ⟨rfl, ⟨_, _, _, _, hP.set _ _ _ _ (by omega), .inl ⟨hn, rfl, by omega⟩⟩, frQ _⟩
  · obtain ⟨k, s, m, p, e⟩ := tk_any n a
    exact acall_pure (pWantS hP (by decide) e hj) ⟨rfl, ⟨a, d, 12, 40, hP, .inr ⟨hn, rfl, rfl⟩⟩, Fr.refl _ _⟩

theorem pBrackets {n it vt i : Nat} {q : Int} (hq0 : 0 ≤ q) (hq : q ≤ 100) (hi : i < n) (he : RdAt n it vt (i + 1) 8 (q + 1)) : RdAt n it vt i 55 q := by
  intro ip d H h
  have hip := get_lt h.pv
  refine call55 (by simp) ?_
  simp only [go_sem, Nat.reduceEqDiff, reduceIte, ↓reduceIte, Nat.reduceAdd, Z0, Z1, Z2, Z3, Z4, Z5, Nat.reduceLT, Z6, Z7, Int.reduceEq, Z8, Z9, Nat.reduceLeDiff, Za, Zb, Zc, Zd, Ze, Zf, bytesOf, Zg, Zh, Zi, Zj, Zk, Zl, Int.reduceLT, Int.reduceLE, Zm, Int.reduceToNat, Zn, Zo, Zp, Int.reduceAdd, Zq, Zr, mc55, mr55, zl3_0]
  refine acall_pure (pNext (h.ext _) (tk_open hi)) ?_
  simp only [go_sem, Nat.reduceEqDiff, reduceIte, ↓reduceIte, Nat.reduceAdd, Z0, Z1, Z2, Z3, Z4, Z5, Nat.reduceLT, Z6, Z7, Int.reduceEq, Z8, Z9, Nat.reduceLeDiff, Za, Zb, Zc, Zd, Ze, Zf, bytesOf, Zg, Zh, Zi, Zj, Zk, Zl, Int.reduceLT, Int.reduceLE, Zm, Int.reduceToNat, Zn, Zo, Zp, Int.reduceAdd, Zq, Zr, tkC]
  refine acall_gen (pWantT (h.ext _) (tk_open hi) (j := H.length + 2) (v := 0) (by rw [get_off]; rfl)) (fun H1 => PS n it vt ip H1 (i + 1) d 0 0 ∧ Fr (Q1 ip) (Q1 ip) H H1 ∧ H1[H.length]? = some (.var eZ)) ⟨(h.ext _).set _ _ _ _ (by omega), (Fr.ext _ _ _).trans (frQ _), get_set (by rw [get_off0]; rfl) (by omega)⟩ (fun H1 hh => ?_)
  obtain ⟨h1, f1, g4⟩ := hh
  obtain ⟨k, s, m, p, ht, hn⟩ := tkIn hi
  simp only [go_sem, Nat.reduceEqDiff, reduceIte, ↓reduceIte, Nat.reduceAdd, Z0, Z1, Z2, Z3, Z4, Z5, Nat.reduceLT, Z6, Z7, Int.reduceEq, Z8, Z9, Nat.reduceLeDiff, Za, Zb, Zc, Zd, Ze, Zf, bytesOf, Zg, Zh, Zi, Zj, Zk, Zl, Int.reduceLT, Int.reduceLE, Zm, Int.reduceToNat, Zn, Zo, Zp, Int.reduceAdd, Zq, Zr]
  refine acall_pure (pTakeF h1 ht (hn [41] (by decide))) ?_
  simp only [go_sem, Nat.reduceEqDiff, reduceIte, ↓reduceIte, Nat.reduceAdd, Z0, Z1, Z2, Z3, Z4, Z5, Nat.reduceLT, Z6, Z7, Int.reduceEq, Z8, Z9, Nat.reduceLeDiff, Za, Zb, Zc, Zd, Ze, Zf, bytesOf, Zg, Zh, Zi, Zj, Zk, Zl, Int.reduceLT, Int.reduceLE, Zm, Int.reduceToNat, Zn, Zo, Zp, Int.reduceAdd, Zq, Zr]
  refine acall_pure (pFailed h1) ?_
  simp only [go_sem, Nat.reduceEqDiff, reduceIte, ↓reduceIte, Nat.reduceAdd, Z0, Z1, Z2, Z3, Z4, Z5, Nat.reduceLT, Z6, Z7, Int.reduceEq, Z8, Z9, Nat.reduceLeDiff, Za, Zb, Zc, Zd, Ze, Zf, bytesOf, Zg, Zh, Zi, Zj, Zk, Zl, Int.reduceLT, Int.reduceLE, Zm, Int.reduceToNat, Zn, Zo, Zp, Int.reduceAdd, Zq, Zr, decide_true, Bool.not_true, wrS hq0 hq]
  refine (he ip d H1 h1).mono ?_
  rintro r H2 ⟨rfl, h2, f2⟩
  obtain ⟨k', m', p', er⟩ := eR_eq n
  have g4 := f2.keep _ _ g4 (by intro e; omega)
  rw [eZ] at g4
  have f2 := f1.trans f2
  have hl2 := f2.len
  simp only [go_sem, Nat.reduceEqDiff, reduceIte, ↓reduceIte, Nat.reduceAdd, Z0, Z1, Z2, Z3, Z4, Z5, Nat.reduceLT, Z6, Z7, Int.reduceEq, Z8, Z9, Nat.reduceLeDiff, Za, Zb, Zc, Zd, Ze, Zf, bytesOf, Zg, Zh, Zi, Zj, Zk, Zl, Int.reduceLT, Int.reduceLE, Zm, Int.reduceToNat, Zn, Zo, Zp, Int.reduceAdd, Zq, Zr, er]
  have ee : [AV.p (.i .i64 k'), .p (.s []), .p (.i .i64 m'), .p (.s []), .p (.i .i64 p'), .p .nl, .p .nl] = eR n := er.symm
  rw [ee]
  have h3 := h2.ext [.rows 7 0 [eR n]]
  have f3 := f2.app [.rows 7 0 [eR n]]
  have g3 : (H2 ++ [AO.rows 7 0 [eR n]])[H.length]? = _ := get_ext g4 _
  have g6 : (H2 ++ [AO.rows 7 0 [eR n]])[H2.length]? = some (.rows 7 0 [eR n]) := by rw [get_off0]; rfl
  generalize H2 ++ [AO.rows 7 0 [eR n]] = H3 at h3 f3 g3 g6 ⊢
  refine ⟨Unit, [0, 4, 6], fun _ st => st = ⟨[(0, .ptr ip 0), (4, .ptr H.length 0), (6, .gs H2.length 0 0 1)], [], H3⟩, fun _ => 0, ⟨(), ?_⟩, ?_⟩
  · simp only [go_sem, Nat.reduceEqDiff, reduceIte, ↓reduceIte, Nat.reduceAdd, Z0, Z1, Z2, Z3, Z4, Z5, Nat.reduceLT, Z6, Z7, Int.reduceEq, Z8, Z9, Nat.reduceLeDiff, Za, Zb, Zc, Zd, Ze, Zf, bytesOf, Zg, Zh, Zi, Zj, Zk, Zl, Int.reduceLT, Int.reduceLE, Zm, Int.reduceToNat, Zn, Zo, Zp, Int.reduceAdd, Zq, Zr]
  · rintro _ _ rfl
    obtain ⟨a, d2, cd, ps, k2, s2, m2, p2, hP, ht2, hno, _⟩ := aftTok h3 hi
    simp only [go_sem, Nat.reduceEqDiff, reduceIte, ↓reduceIte, Nat.reduceAdd, Z0, Z1, Z2, Z3, Z4, Z5, Nat.reduceLT, Z6, Z7, Int.reduceEq, Z8, Z9, Nat.reduceLeDiff, Za, Zb, Zc, Zd, Ze, Zf, bytesOf, Zg, Zh, Zi, Zj, Zk, Zl, Int.reduceLT, Int.reduceLE, Zm, Int.reduceToNat, Zn, Zo, Zp, Int.reduceAdd, Zq, Zr]
    refine acall_pure (pTakeF hP ht2 (hno [44] (by decide))) ?_
    simp only [go_sem, Nat.reduceEqDiff, reduceIte, ↓reduceIte, Nat.reduceAdd, Z0, Z1, Z2, Z3, Z4, Z5, Nat.reduceLT, Z6, Z7, Int.reduceEq, Z8, Z9, Nat.reduceLeDiff, Za, Zb, Zc, Zd, Ze, Zf, bytesOf, Zg, Zh, Zi, Zj, Zk, Zl, Int.reduceLT, Int.reduceLE, Zm, Int.reduceToNat, Zn, Zo, Zp, Int.reduceAdd, Zq, Zr]
    refine (pWantClose (h3.ext _) hi (by rw [get_off0]; rfl)).mono ?_
    rintro r H4 ⟨rfl, h4, f4⟩
    have g4 := f4.keep _ _ (get_ext g3 _) (by intro e; omega)
    have g6 := f4.keep _ _ (get_ext g6 _) (by intro e; omega)
    simp only [go_sem, Nat.reduceEqDiff, reduceIte, ↓reduceIte, Nat.reduceAdd, Z0, Z1, Z2, Z3, Z4, Z5, Nat.reduceLT, Z6, Z7, Int.reduceEq, Z8, Z9, Nat.reduceLeDiff, Za, Zb, Zc, Zd, Ze, Zf, bytesOf, Zg, Zh, Zi, Zj, Zk, Zl, Int.reduceLT, Int.reduceLE, Zm, Int.reduceToNat, Zn, Zo, Zp, Int.reduceAdd, Zq, Zr, g6, er]
    have f5 := f3.trans ((Fr.ext _ _ _).trans f4)
    have g7 : ∀ o, (H4.set H.length o)[H.length]? = some o := fun o => set_get g4
    simp only [go_sem, Nat.reduceEqDiff, reduceIte, ↓reduceIte, Nat.reduceAdd, Z0, Z1, Z2, Z3, Z4, Z5, Nat.reduceLT, Z6, Z7, Int.reduceEq, Z8, Z9, Nat.reduceLeDiff, Za, Zb, Zc, Zd, Ze, Zf, bytesOf, Zg, Zh, Zi, Zj, Zk, Zl, Int.reduceLT, Int.reduceLE, Zm, Int.reduceToNat, Zn, Zo, Zp, Int.reduceAdd, Zq, Zr, g4, g6, g7]
    intro _
    exact ⟨h4.put hip (get_lt h.tv) _, f5.setNew (Nat.le_refl _) _⟩

theorem pKindF {n it vt ip H a d cd ps k s m p} (h : PS n it vt ip H a d cd ps) (ht : tk n a = tkC k s m p) {q : Int} (hk : cd ≠ 0 ∨ k ≠ q) : ACall Tryd.prog 20 [.ptr ip 0, .p (.i .i64 q)] H (pureQ (.p (.b false)) H) := by
  have := pKind h ht q
  have e : (decide (cd = 0) && decide (k = q)) = false := by rcases hk with h | h <;> simp [h]
  rwa [e] at this
theorem pIsF {n it vt ip H a d cd ps k s m p} (h : PS n it vt ip H a d cd ps) (ht : tk n a = tkC k s m p) {t : List UInt8} (hn : Not cd k s t) : ACall Tryd.prog 25 [.ptr ip 0, .p (.s t)] H (pureQ (.p (.b false)) H) := by
  have := pIs h ht t
  have e : (decide (cd = 0) && (decide (k = 6) || decide (k = 7)) && decide (s = t)) = false := by
    rcases hn with h | h | h <;> simp [h]
  rwa [e] at this

theorem pAtom {n it vt i : Nat} {q : Int} (hi : i < n) (hb : RdAt n it vt i 55 q) : RdAt n it vt i 50 q := by
  intro ip d H h
  have hip := get_lt h.pv
  have ht := tk_open hi
  refine call50 (by simp) ?_
  simp only [go_sem, Nat.reduceEqDiff, reduceIte, ↓reduceIte, Nat.reduceAdd, Z0, Z1, Z2, Z3, Z4, Z5, Nat.reduceLT, Z6, Z7, Int.reduceEq, Z8, Z9, Nat.reduceLeDiff, Za, Zb, Zc, Zd, Ze, Zf, bytesOf, Zg, Zh, Zi, Zj, Zk, Zl, Int.reduceLT, Int.reduceLE, Zm, Int.reduceToNat, Zn, Zo, Zp, Int.reduceAdd, Zq, Zr, mc50, mr50, zl3_0]
  refine acall_pure (pNext (h.ext _) ht) ?_
  simp only [go_sem, Nat.reduceEqDiff, reduceIte, ↓reduceIte, Nat.reduceAdd, Z0, Z1, Z2, Z3, Z4, Z5, Nat.reduceLT, Z6, Z7, Int.reduceEq, Z8, Z9, Nat.reduceLeDiff, Za, Zb, Zc, Zd, Ze, Zf, bytesOf, Zg, Zh, Zi, Zj, Zk, Zl, Int.reduceLT, Int.reduceLE, Zm, Int.reduceToNat, Zn, Zo, Zp, Int.reduceAdd, Zq, Zr, tkC]
  refine acall_gen (pKindF (h.ext _) ht (q := 1) (.inr (by decide))) (fun H1 => PS n it vt ip H1 i d 0 0 ∧ Fr (Q1 ip) (Q1 ip) H H1 ∧ H1[H.length]? = some (.var eZ)) ⟨h.ext _, Fr.ext _ _ _, by rw [get_off0]; rfl⟩ (fun H1 hh => ?_)
  obtain ⟨h1, f1, g4⟩ := hh
  simp only [go_sem, Nat.reduceEqDiff, reduceIte, ↓reduceIte, Nat.reduceAdd, Z0, Z1, Z2, Z3, Z4, Z5, Nat.reduceLT, Z6, Z7, Int.reduceEq, Z8, Z9, Nat.reduceLeDiff, Za, Zb, Zc, Zd, Ze, Zf, bytesOf, Zg, Zh, Zi, Zj, Zk, Zl, Int.reduceLT, Int.reduceLE, Zm, Int.reduceToNat, Zn, Zo, Zp, Int.reduceAdd, Zq, Zr]
  refine acall_pure (pKindF h1 ht (q := 2) (.inr (by decide))) ?_
  simp only [go_sem, Nat.reduceEqDiff, reduceIte, ↓reduceIte, Nat.reduceAdd, Z0, Z1, Z2, Z3, Z4, Z5, Nat.reduceLT, Z6, Z7, Int.reduceEq, Z8, Z9, Nat.reduceLeDiff, Za, Zb, Zc, Zd, Ze, Zf, bytesOf, Zg, Zh, Zi, Zj, Zk, Zl, Int.reduceLT, Int.reduceLE, Zm, Int.reduceToNat, Zn, Zo, Zp, Int.reduceAdd, Zq, Zr]
  refine acall_pure (pIsF h1 ht (.inr (.inr (by decide)))) ?_
  simp only [go_sem, Nat.reduceEqDiff, reduceIte, ↓reduceIte, Nat.reduceAdd, Z0, Z1, Z2, Z3, Z4, Z5, Nat.reduceLT, Z6, Z7, Int.reduceEq, Z8, Z9, Nat.reduceLeDiff, Za, Zb, Zc, Zd, Ze, Zf, bytesOf, Zg, Zh, Zi, Zj, Zk, Zl, Int.reduceLT, Int.reduceLE, Zm, Int.reduceToNat, Zn, Zo, Zp, Int.reduceAdd, Zq, Zr]
  refine acall_pure (pIsF h1 ht (.inr (.inr (by decide)))) ?_
  simp only [go_sem, Nat.reduceEqDiff, reduceIte, ↓reduceIte, Nat.reduceAdd, Z0, Z1, Z2, Z3, Z4, Z5, Nat.reduceLT, Z6, Z7, Int.reduceEq, Z8, Z9, Nat.reduceLeDiff, Za, Zb, Zc, Zd, Ze, Zf, bytesOf, Zg, Zh, Zi, Zj, Zk, Zl, Int.reduceLT, Int.reduceLE, Zm, Int.reduceToNat, Zn, Zo, Zp, Int.reduceAdd, Zq, Zr]
  refine acall_pure (pKindF h1 ht (q := 3) (.inr (by decide))) ?_
  simp only [go_sem, Nat.reduceEqDiff, reduceIte, ↓reduceIte, Nat.reduceAdd, Z0, Z1, Z2, Z3, Z4, Z5, Nat.reduceLT, Z6, Z7, Int.reduceEq, Z8, Z9, Nat.reduceLeDiff, Za, Zb, Zc, Zd, Ze, Zf, bytesOf, Zg, Zh, Zi, Zj, Zk, Zl, Int.reduceLT, Int.reduceLE, Zm, Int.reduceToNat, Zn, Zo, Zp, Int.reduceAdd, Zq, Zr]
  refine acall_pure (pKindF h1 ht (q := 4) (.inr (by decide))) ?_
  simp only [go_sem, Nat.reduceEqDiff, reduceIte, ↓reduceIte, Nat.reduceAdd, Z0, Z1, Z2, Z3, Z4, Z5, Nat.reduceLT, Z6, Z7, Int.reduceEq, Z8, Z9, Nat.reduceLeDiff, Za, Zb, Zc, Zd, Ze, Zf, bytesOf, Zg, Zh, Zi, Zj, Zk, Zl, Int.reduceLT, Int.reduceLE, Zm, Int.reduceToNat, Zn, Zo, Zp, Int.reduceAdd, Zq, Zr]
  refine acall_pure (pIsF h1 ht (.inr (.inr (by decide)))) ?_
  simp only [go_sem, Nat.reduceEqDiff, reduceIte, ↓reduceIte, Nat.reduceAdd, Z0, Z1, Z2, Z3, Z4, Z5, Nat.reduceLT, Z6, Z7, Int.reduceEq, Z8, Z9, Nat.reduceLeDiff, Za, Zb, Zc, Zd, Ze, Zf, bytesOf, Zg, Zh, Zi, Zj, Zk, Zl, Int.reduceLT, Int.reduceLE, Zm, Int.reduceToNat, Zn, Zo, Zp, Int.reduceAdd, Zq, Zr]
  refine (hb ip d H1 h1).mono ?_
  rintro r H2 ⟨rfl, h2, f2⟩
  obtain ⟨k', m', p', er⟩ := eR_eq n
  have g4 := f2.keep _ _ g4 (by intro e; omega)
  rw [eZ] at g4
  have g7 : ∀ o, (H2.set H.length o)[H.length]? = some o := fun o => set_get g4
  simp only [go_sem, Nat.reduceEqDiff, reduceIte, ↓reduceIte, Nat.reduceAdd, Z0, Z1, Z2, Z3, Z4, Z5, Nat.reduceLT, Z6, Z7, Int.reduceEq, Z8, Z9, Nat.reduceLeDiff, Za, Zb, Zc, Zd, Ze, Zf, bytesOf, Zg, Zh, Zi, Zj, Zk, Zl, Int.reduceLT, Int.reduceLE, Zm, Int.reduceToNat, Zn, Zo, Zp, Int.reduceAdd, Zq, Zr, er, g4, g7]
  exact ⟨h2.put hip (get_lt h.tv) _, (f1.trans f2).setNew (Nat.le_refl _) _⟩

theorem pPre {n it vt i : Nat} {q : Int} (hi : i ≤ n) (hb : RdAt n it vt i 50 q) : RdAt n it vt i 48 q := by
  intro ip d H h
  have hip := get_lt h.pv
  have ⟨k, s, m, p, ht, hno, hk4⟩ : ∃ k s m p, tk n i = tkC k s m p ∧ (∀ t : List UInt8, t ≠ [40] → Not 0 k s t) ∧ k ≠ 4 := by
    by_cases hin : i < n
    · exact ⟨_, _, _, _, tk_open hin, fun t ht => .inr (.inr (Ne.symm ht)), by decide⟩
    · have : i = n := by omega
      subst this
      exact ⟨_, _, _, _, tk_num i, fun t ht => .inr (.inl ⟨by decide, by decide⟩), by decide⟩
  refine call48 (by simp) ?_
  simp only [go_sem, Nat.reduceEqDiff, reduceIte, ↓reduceIte, Nat.reduceAdd, Z0, Z1, Z2, Z3, Z4, Z5, Nat.reduceLT, Z6, Z7, Int.reduceEq, Z8, Z9, Nat.reduceLeDiff, Za, Zb, Zc, Zd, Ze, Zf, bytesOf, Zg, Zh, Zi, Zj, Zk, Zl, Int.reduceLT, Int.reduceLE, Zm, Int.reduceToNat, Zn, Zo, Zp, Int.reduceAdd, Zq, Zr, mc48, mr48, zl3_0]
  refine acall_gen (pNext (h.ext _) ht) (fun H1 => PS n it vt ip H1 i d 0 0 ∧ Fr (Q1 ip) (Q1 ip) H H1 ∧ H1[H.length]? = some (.var eZ)) ⟨h.ext _, Fr.ext _ _ _, by rw [get_off0]; rfl⟩ (fun H1 hh => ?_)
  obtain ⟨h1, f1, g4⟩ := hh
  simp only [go_sem, Nat.reduceEqDiff, reduceIte, ↓reduceIte, Nat.reduceAdd, Z0, Z1, Z2, Z3, Z4, Z5, Nat.reduceLT, Z6, Z7, Int.reduceEq, Z8, Z9, Nat.reduceLeDiff, Za, Zb, Zc, Zd, Ze, Zf, bytesOf, Zg, Zh, Zi, Zj, Zk, Zl, Int.reduceLT, Int.reduceLE, Zm, Int.reduceToNat, Zn, Zo, Zp, Int.reduceAdd, Zq, Zr, tkC]
  intro _
  have h3 := h1.ext [.var [.p (.i .i64 k), .p (.s s), .p (.i .i64 m), .p (.i .i64 p)], .rows 1 0 [[.p (.s [112, 114, 105, 110, 116])], [.p (.s [101, 120, 105, 116])], [.p (.s [115, 105, 122, 101])], [.p (.s [114, 101, 102])], [.p (.s [33])]]]
  have f3 := f1.app [.var [.p (.i .i64 k), .p (.s s), .p (.i .i64 m), .p (.i .i64 p)], .rows 1 0 [[.p (.s [112, 114, 105, 110, 116])], [.p (.s [101, 120, 105, 116])], [.p (.s [115, 105, 122, 101])], [.p (.s [114, 101, 102])], [.p (.s [33])]]]
  have g3 := get_ext g4 [.var [.p (.i .i64 k), .p (.s s), .p (.i .i64 m), .p (.i .i64 p)], .rows 1 0 [[.p (.s [112, 114, 105, 110, 116])], [.p (.s [101, 120, 105, 116])], [.p (.s [115, 105, 122, 101])], [.p (.s [114, 101, 102])], [.p (.s [33])]]]
  have g11 : (H1 ++ [.var [.p (.i .i64 k), .p (.s s), .p (.i .i64 m), .p (.i .i64 p)], .rows 1 0 [[.p (.s [112, 114, 105, 110, 116])], [.p (.s [101, 120, 105, 116])], [.p (.s [115, 105, 122, 101])], [.p (.s [114, 101, 102])], [.p (.s [33])]]])[H1.length + 1]? = some (.rows 1 0 [[.p (.s [112, 114, 105, 110, 116])], [.p (.s [101, 120, 105, 116])], [.p (.s [115, 105, 122, 101])], [.p (.s [114, 101, 102])], [.p (.s [33])]]) := by rw [get_off]; rfl
  generalize H1 ++ [.var [.p (.i .i64 k), .p (.s s), .p (.i .i64 m), .p (.i .i64 p)], .rows 1 0 [[.p (.s [112, 114, 105, 110, 116])], [.p (.s [101, 120, 105, 116])], [.p (.s [115, 105, 122, 101])], [.p (.s [114, 101, 102])], [.p (.s [33])]]] = H3 at h3 f3 g3 g11 ⊢
  generalize H1.length + 1 = b11 at g11 ⊢
  refine ⟨Nat, [0, 1, 4, 11, 12, 13], fun x st => x ≤ 5 ∧ st = ⟨[(0, .ptr ip 0), (1, .p (.i .i64 q)), (4, .ptr H.length 0), (11, .gs b11 0 0 5), (12, .p (.i .i64 5)), (13, .p (.i .i64 x))], [], H3⟩, fun x => 5 - x, ⟨0, ?_⟩, ?_⟩
  · simp only [go_sem, Nat.reduceEqDiff, reduceIte, ↓reduceIte, Nat.reduceAdd, Z0, Z1, Z2, Z3, Z4, Z5, Nat.reduceLT, Z6, Z7, Int.reduceEq, Z8, Z9, Nat.reduceLeDiff, Za, Zb, Zc, Zd, Ze, Zf, bytesOf, Zg, Zh, Zi, Zj, Zk, Zl, Int.reduceLT, Int.reduceLE, Zm, Int.reduceToNat, Zn, Zo, Zp, Int.reduceAdd, Zq, Zr]
  · rintro x _ ⟨hx, rfl⟩
    have hc : x = 0 ∨ x = 1 ∨ x = 2 ∨ x = 3 ∨ x = 4 ∨ x = 5 := by omega
    rcases hc with rfl | rfl | rfl | rfl | rfl | rfl
    rotate_left 5
    · simp only [go_sem, Nat.reduceEqDiff, reduceIte, ↓reduceIte, Nat.reduceAdd, Z0, Z1, Z2, Z3, Z4, Z5, Nat.reduceLT, Z6, Z7, Int.reduceEq, Z8, Z9, Nat.reduceLeDiff, Za, Zb, Zc, Zd, Ze, Zf, bytesOf, Zg, Zh, Zi, Zj, Zk, Zl, Int.reduceLT, Int.reduceLE, Zm, Int.reduceToNat, Zn, Zo, Zp, Int.reduceAdd, Zq, Zr]
      refine acall_pure (pKindF h3 ht (q := 4) (.inr hk4)) ?_
      simp only [go_sem, Nat.reduceEqDiff, reduceIte, ↓reduceIte, Nat.reduceAdd, Z0, Z1, Z2, Z3, Z4, Z5, Nat.reduceLT, Z6, Z7, Int.reduceEq, Z8, Z9, Nat.reduceLeDiff, Za, Zb, Zc, Zd, Ze, Zf, bytesOf, Zg, Zh, Zi, Zj, Zk, Zl, Int.reduceLT, Int.reduceLE, Zm, Int.reduceToNat, Zn, Zo, Zp, Int.reduceAdd, Zq, Zr]
      refine (hb ip d H3 h3).mono ?_
      rintro r H2 ⟨rfl, h2, f2⟩
      obtain ⟨k', m', p', er⟩ := eR_eq n
      have g4 := f2.keep _ _ g3 (by intro e; omega)
      rw [eZ] at g4
      have g7 : ∀ o, (H2.set H.length o)[H.length]? = some o := fun o => set_get g4
      simp only [go_sem, Nat.reduceEqDiff, reduceIte, ↓reduceIte, Nat.reduceAdd, Z0, Z1, Z2, Z3, Z4, Z5, Nat.reduceLT, Z6, Z7, Int.reduceEq, Z8, Z9, Nat.reduceLeDiff, Za, Zb, Zc, Zd, Ze, Zf, bytesOf, Zg, Zh, Zi, Zj, Zk, Zl, Int.reduceLT, Int.reduceLE, Zm, Int.reduceToNat, Zn, Zo, Zp, Int.reduceAdd, Zq, Zr, er, g4, g7]
      exact ⟨h2.put hip (get_lt h.tv) _, (f3.trans f2).setNew (Nat.le_refl _) _⟩
    · simp only [go_sem, Nat.reduceEqDiff, reduceIte, ↓reduceIte, Nat.reduceAdd, Z0, Z1, Z2, Z3, Z4, Z5, Nat.reduceLT, Z6, Z7, Int.reduceEq, Z8, Z9, Nat.reduceLeDiff, Za, Zb, Zc, Zd, Ze, Zf, bytesOf, Zg, Zh, Zi, Zj, Zk, Zl, Int.reduceLT, Int.reduceLE, Zm, Int.reduceToNat, Zn, Zo, Zp, Int.reduceAdd, Zq, Zr, g11]
      refine acall_pure (pTakeF h3 ht (hno _ (by decide))) ?_
      simp only [go_sem, Nat.reduceEqDiff, reduceIte, ↓reduceIte, Nat.reduceAdd, Z0, Z1, Z2, Z3, Z4, Z5, Nat.reduceLT, Z6, Z7, Int.reduceEq, Z8, Z9, Nat.reduceLeDiff, Za, Zb, Zc, Zd, Ze, Zf, bytesOf, Zg, Zh, Zi, Zj, Zk, Zl, Int.reduceLT, Int.reduceLE, Zm, Int.reduceToNat, Zn, Zo, Zp, Int.reduceAdd, Zq, Zr]
      exact ⟨1, ⟨by decide, rfl⟩, by decide⟩
    · simp only [go_sem, Nat.reduceEqDiff, reduceIte, ↓reduceIte, Nat.reduceAdd, Z0, Z1, Z2, Z3, Z4, Z5, Nat.reduceLT, Z6, Z7, Int.reduceEq, Z8, Z9, Nat.reduceLeDiff, Za, Zb, Zc, Zd, Ze, Zf, bytesOf, Zg, Zh, Zi, Zj, Zk, Zl, Int.reduceLT, Int.reduceLE, Zm, Int.reduceToNat, Zn, Zo, Zp, Int.reduceAdd, Zq, Zr, g11]
      refine acall_pure (pTakeF h3 ht (hno _ (by decide))) ?_
      simp only [go_sem, Nat.reduceEqDiff, reduceIte, ↓reduceIte, Nat.reduceAdd, Z0, Z1, Z2, Z3, Z4, Z5, Nat.reduceLT, Z6, Z7, Int.reduceEq, Z8, Z9, Nat.reduceLeDiff, Za, Zb, Zc, Zd, Ze, Zf, bytesOf, Zg, Zh, Zi, Zj, Zk, Zl, Int.reduceLT, Int.reduceLE, Zm, Int.reduceToNat, Zn, Zo, Zp, Int.reduceAdd, Zq, Zr]
      exact ⟨2, ⟨by decide, rfl⟩, by decide⟩
    · simp only [go_sem, Nat.reduceEqDiff, reduceIte, ↓reduceIte, Nat.reduceAdd, Z0, Z1, Z2, Z3, Z4, Z5, Nat.reduceLT, Z6, Z7, Int.reduceEq, Z8, Z9, Nat.reduceLeDiff, Za, Zb, Zc, Zd, Ze, Zf, bytesOf, Zg, Zh, Zi, Zj, Zk, Zl, Int.reduceLT, Int.reduceLE, Zm, Int.reduceToNat, Zn, Zo, Zp, Int.reduceAdd, Zq, Zr, g11]
      refine acall_pure (pTakeF h3 ht (hno _ (by decide))) ?_
      simp only [go_sem, Nat.reduceEqDiff, reduceIte, ↓reduceIte, Nat.reduceAdd, Z0, Z1, Z2, Z3, Z4, Z5, Nat.reduceLT, Z6, Z7, Int.reduceEq, Z8, Z9, Nat.reduceLeDiff, Za, Zb, Zc, Zd, Ze, Zf, bytesOf, Zg, Zh, Zi, Zj, Zk, Zl, Int.reduceLT, Int.reduceLE, Zm, Int.reduceToNat, Zn, Zo, Zp, Int.reduceAdd, Zq, Zr]
      exact ⟨3, ⟨by decide, rfl⟩, by decide⟩
    · simp only [go_sem, Nat.reduceEqDiff, reduceIte, ↓reduceIte, Nat.reduceAdd, Z0, Z1, Z2, Z3, Z4, Z5, Nat.reduceLT, Z6, Z7, Int.reduceEq, Z8, Z9, Nat.reduceLeDiff, Za, Zb, Zc, Zd, Ze, Zf, bytesOf, Zg, Zh, Zi, Zj, Zk, Zl, Int.reduceLT, Int.reduceLE, Zm, Int.reduceToNat, Zn, Zo, Zp, Int.reduceAdd, Zq, Zr, g11]
      refine acall_pure (pTakeF h3 ht (hno _ (by decide))) ?_
      simp only [go_sem, Nat.reduceEqDiff, reduceIte, ↓reduceIte, Nat.reduceAdd, Z0, Z1, Z2, Z3, Z4, Z5, Nat.reduceLT, Z6, Z7, Int.reduceEq, Z8, Z9, Nat.reduceLeDiff, Za, Zb, Zc, Zd, Ze, Zf, bytesOf, Zg, Zh, Zi, Zj, Zk, Zl, Int.reduceLT, Int.reduceLE, Zm, Int.reduceToNat, Zn, Zo, Zp, Int.reduceAdd, Zq, Zr]
      exact ⟨4, ⟨by decide, rfl⟩, by decide⟩
    · simp only [go_sem, Nat.reduceEqDiff, reduceIte, ↓reduceIte, Nat.reduceAdd, Z0, Z1, Z2, Z3, Z4, Z5, Nat.reduceLT, Z6, Z7, Int.reduceEq, Z8, Z9, Nat.reduceLeDiff, Za, Zb, Zc, Zd, Ze, Zf, bytesOf, Zg, Zh, Zi, Zj, Zk, Zl, Int.reduceLT, Int.reduceLE, Zm, Int.reduceToNat, Zn, Zo, Zp, Int.reduceAdd, Zq, Zr, g11]
      refine acall_pure (pTakeF h3 ht (hno _ (by decide))) ?_
      simp only [go_sem, Nat.reduceEqDiff, reduceIte, ↓reduceIte, Nat.reduceAdd, Z0, Z1, Z2, Z3, Z4, Z5, Nat.reduceLT, Z6, Z7, Int.reduceEq, Z8, Z9, Nat.reduceLeDiff, Za, Zb, Zc, Zd, Ze, Zf, bytesOf, Zg, Zh, Zi, Zj, Zk, Zl, Int.reduceLT, Int.reduceLE, Zm, Int.reduceToNat, Zn, Zo, Zp, Int.reduceAdd, Zq, Zr]
      exact ⟨5, ⟨by decide, rfl⟩, by decide⟩

theorem pApp {n it vt i : Nat} {q : Int} (hi : i ≤ n) (hb : RdAt n it vt i 48 q) : RdAt n it vt i 39 q := by
  intro ip d H h
  have hip := get_lt h.pv
  obtain ⟨k', m', p', er⟩ := eR_eq n
  refine call39 (by simp) ?_
  simp only [go_sem, Nat.reduceEqDiff, reduceIte, ↓reduceIte, Nat.reduceAdd, Z0, Z1, Z2, Z3, Z4, Z5, Nat.reduceLT, Z6, Z7, Int.reduceEq, Z8, Z9, Nat.reduceLeDiff, Za, Zb, Zc, Zd, Ze, Zf, bytesOf, Zg, Zh, Zi, Zj, Zk, Zl, Int.reduceLT, Int.reduceLE, Zm, Int.reduceToNat, Zn, Zo, Zp, Int.reduceAdd, Zq, Zr, mc39, mr39, zl3_0]
  refine (hb ip d _ (h.ext _)).mono ?_
  rintro r H2 ⟨rfl, h2, f2⟩
  have g4 := f2.keep _ _ (show (H ++ [AO.var eZ])[H.length]? = some (AO.var eZ) by rw [get_off0]; rfl) (by intro e; omega)
  have f2 := (Fr.ext (Q1 ip) H [AO.var eZ]).trans f2
  have ee : [AV.p (.i .i64 k'), .p (.s []), .p (.i .i64 m'), .p (.s []), .p (.i .i64 p'), .p .nl, .p .nl] = eR n := er.symm
  simp only [go_sem, Nat.reduceEqDiff, reduceIte, ↓reduceIte, Nat.reduceAdd, Z0, Z1, Z2, Z3, Z4, Z5, Nat.reduceLT, Z6, Z7, Int.reduceEq, Z8, Z9, Nat.reduceLeDiff, Za, Zb, Zc, Zd, Ze, Zf, bytesOf, Zg, Zh, Zi, Zj, Zk, Zl, Int.reduceLT, Int.reduceLE, Zm, Int.reduceToNat, Zn, Zo, Zp, Int.reduceAdd, Zq, Zr, er]
  rw [ee]
  have h3 := h2.ext [.var (eR n)]
  have f3 := f2.app [.var (eR n)]
  have g3 := get_ext g4 [.var (eR n)]
  have g5 : (H2 ++ [AO.var (eR n)])[H2.length]? = some (.var (eR n)) := by rw [get_off0]; rfl
  have hl : H.length < H2.length := get_lt g4
  generalize H2 ++ [AO.var (eR n)] = H3 at h3 f3 g3 g5 ⊢
  generalize H2.length = b5 at g5 hl ⊢
  refine ⟨Unit, [0, 4, 5], fun _ st => st = ⟨[(0, .ptr ip 0), (4, .ptr H.length 0), (5, .ptr b5 0)], [], H3⟩, fun _ => 0, ⟨(), ?_⟩, ?_⟩
  · simp only [go_sem, Nat.reduceEqDiff, reduceIte, ↓reduceIte, Nat.reduceAdd, Z0, Z1, Z2, Z3, Z4, Z5, Nat.reduceLT, Z6, Z7, Int.reduceEq, Z8, Z9, Nat.reduceLeDiff, Za, Zb, Zc, Zd, Ze, Zf, bytesOf, Zg, Zh, Zi, Zj, Zk, Zl, Int.reduceLT, Int.reduceLE, Zm, Int.reduceToNat, Zn, Zo, Zp, Int.reduceAdd, Zq, Zr]
  · rintro _ _ rfl
    simp only [go_sem, Nat.reduceEqDiff, reduceIte, ↓reduceIte, Nat.reduceAdd, Z0, Z1, Z2, Z3, Z4, Z5, Nat.reduceLT, Z6, Z7, Int.reduceEq, Z8, Z9, Nat.reduceLeDiff, Za, Zb, Zc, Zd, Ze, Zf, bytesOf, Zg, Zh, Zi, Zj, Zk, Zl, Int.reduceLT, Int.reduceLE, Zm, Int.reduceToNat, Zn, Zo, Zp, Int.reduceAdd, Zq, Zr]
    refine acall_pure (pAtomNext h3 hi) ?_
    rw [eZ] at g3
    rw [er] at g5
    have g7 : ∀ o, (H3.set H.length o)[H.length]? = some o := fun o => set_get g3
    simp only [go_sem, Nat.reduceEqDiff, reduceIte, ↓reduceIte, Nat.reduceAdd, Z0, Z1, Z2, Z3, Z4, Z5, Nat.reduceLT, Z6, Z7, Int.reduceEq, Z8, Z9, Nat.reduceLeDiff, Za, Zb, Zc, Zd, Ze, Zf, bytesOf, Zg, Zh, Zi, Zj, Zk, Zl, Int.reduceLT, Int.reduceLE, Zm, Int.reduceToNat, Zn, Zo, Zp, Int.reduceAdd, Zq, Zr, g5, g3, g7]
    exact ⟨by rw [er], h3.put hip (get_lt h.tv) _, f3.setNew (Nat.le_refl _) _⟩

theorem pRow1 {n it vt i : Nat} {q : Int} (hb : RdAt n it vt i 39 q) {ip d H} (h : PS n it vt ip H i d 0 0) {a b : Nat} (ha : H[a]? = some (.var [.ptr ip 0])) (hbq : H[b]? = some (.var [.p (.i .i64 q)])) : Reads n it vt ip i 38 [.ptr a 0, .ptr b 0] H := by
  have hip := get_lt h.pv
  have hax : ∀ A, (H ++ A)[a]? = _ := fun A => get_ext ha A
  have hbx : ∀ A, (H ++ A)[b]? = _ := fun A => get_ext hbq A
  obtain ⟨k', m', p', er⟩ := eR_eq n
  refine call38 (by simp) ?_
  simp only [go_sem, Nat.reduceEqDiff, reduceIte, ↓reduceIte, Nat.reduceAdd, Z0, Z1, Z2, Z3, Z4, Z5, Nat.reduceLT, Z6, Z7, Int.reduceEq, Z8, Z9, Nat.reduceLeDiff, Za, Zb, Zc, Zd, Ze, Zf, bytesOf, Zg, Zh, Zi, Zj, Zk, Zl, Int.reduceLT, Int.reduceLE, Zm, Int.reduceToNat, Zn, Zo, Zp, Int.reduceAdd, Zq, Zr, mc38, mr38, zl3_0, hax, hbx]
  refine (hb ip d _ (h.ext _)).mono ?_
  rintro r H2 ⟨rfl, h2, f2⟩
  have g4 := f2.keep _ _ (show (H ++ [AO.var eZ])[H.length]? = some (AO.var eZ) by rw [get_off0]; rfl) (by intro e; omega)
  have f2 := (Fr.ext (Q1 ip) H [AO.var eZ]).trans f2
  rw [eZ] at g4
  have g7 : ∀ o, (H2.set H.length o)[H.length]? = some o := fun o => set_get g4
  simp only [go_sem, Nat.reduceEqDiff, reduceIte, ↓reduceIte, Nat.reduceAdd, Z0, Z1, Z2, Z3, Z4, Z5, Nat.reduceLT, Z6, Z7, Int.reduceEq, Z8, Z9, Nat.reduceLeDiff, Za, Zb, Zc, Zd, Ze, Zf, bytesOf, Zg, Zh, Zi, Zj, Zk, Zl, Int.reduceLT, Int.reduceLE, Zm, Int.reduceToNat, Zn, Zo, Zp, Int.reduceAdd, Zq, Zr, er, g4, g7]
  exact ⟨h2.put hip (get_lt h.tv) _, f2.setNew (Nat.le_refl _) _⟩
end Go.Proofs.YtpaaiigpnbiglaaDoor.Dm

/- Brackets: rows of signs. -/
set_option linter.all false
namespace Go.Proofs.YtpaaiigpnbiglaaDoor.Dm
open Go.AM Mc

/-- a word that is none of a list's -/
theorem indexNone {H : List AO} {j v : Nat} {L : List (List UInt8)} {t : List UInt8} (hj : H[j]? = some (.rows 1 v (L.map fun x => [.p (.s x)]))) (hn : t ∉ L) (hl : L.length ≤ 1000) :
    ACall Tryd.prog 51 [.gs j v 0 L.length, .p (.s t)] H (pureQ (.p (.i .i64 (-1))) H) := by
  have hml : 1000 ≤ maxL := by decide
  refine call51 (by simp) ?_
  simp only [go_sem, Nat.reduceEqDiff, reduceIte, ↓reduceIte, Nat.reduceAdd, Z0, Z1, Z2, Z3, Z4, Z5, Nat.reduceLT, Z6, Z7, Int.reduceEq, Z8, Z9, Nat.reduceLeDiff, Za, Zb, Zc, Zd, Ze, Zf, bytesOf, Zg, Zh, Zi, Zj, Zk, Zl, Int.reduceLT, Int.reduceLE, Zm, Int.reduceToNat, Zn, Zo, Zp, Int.reduceAdd, Zq, Zr, mc51, mr51]
  intro _
  refine ⟨Nat, [0, 1, 7, 8], fun x st => x ≤ L.length ∧ st = ⟨[(0, .gs j v 0 L.length), (1, .p (.s t)), (7, .p (.i .i64 L.length)), (8, .p (.i .i64 x))], [], H⟩, fun x => L.length - x, ⟨0, ?_⟩, ?_⟩
  · simp only [go_sem, Nat.reduceEqDiff, reduceIte, ↓reduceIte, Nat.reduceAdd, Z0, Z1, Z2, Z3, Z4, Z5, Nat.reduceLT, Z6, Z7, Int.reduceEq, Z8, Z9, Nat.reduceLeDiff, Za, Zb, Zc, Zd, Ze, Zf, bytesOf, Zg, Zh, Zi, Zj, Zk, Zl, Int.reduceLT, Int.reduceLE, Zm, Int.reduceToNat, Zn, Zo, Zp, Int.reduceAdd, Zq, Zr]
    omega
  · rintro x _ ⟨hx, rfl⟩
    simp only [go_sem, Nat.reduceEqDiff, reduceIte, ↓reduceIte, Nat.reduceAdd, Z0, Z1, Z2, Z3, Z4, Z5, Nat.reduceLT, Z6, Z7, Int.reduceEq, Z8, Z9, Nat.reduceLeDiff, Za, Zb, Zc, Zd, Ze, Zf, bytesOf, Zg, Zh, Zi, Zj, Zk, Zl, Int.reduceLT, Int.reduceLE, Zm, Int.reduceToNat, Zn, Zo, Zp, Int.reduceAdd, Zq, Zr]
    refine condK_split _ (fun hlt => ?_) (fun hlt => ?_)
    · have hlt := of_decide_eq_true hlt
      have hx2 : x < L.length := by omega
      have hg : (L.map fun x => [AV.p (.s x)])[x]? = some [.p (.s L[x])] := by simp [hx2]
      have hne : decide (t = L[x]) = false := by
        simp; rintro rfl; exact hn (List.getElem_mem hx2)
      have ew : wr .i64 ((x : Int) + 1) = ((x + 1 : Nat) : Int) := by rw [wr64 (by omega) (by omega)]; omega
      simp only [go_sem, Nat.reduceEqDiff, reduceIte, ↓reduceIte, Nat.reduceAdd, Z0, Z1, Z2, Z3, Z4, Z5, Nat.reduceLT, Z6, Z7, Int.reduceEq, Z8, Z9, Nat.reduceLeDiff, Za, Zb, Zc, Zd, Ze, Zf, bytesOf, Zg, Zh, Zi, Zj, Zk, Zl, Int.reduceLT, Int.reduceLE, Zm, Int.reduceToNat, Zn, Zo, Zp, Int.reduceAdd, Zq, Zr, hj, hg, hne, ew, hlt]
      exact ⟨x + 1, ⟨by omega, rfl⟩, by omega⟩
    · simp only [go_sem, Nat.reduceEqDiff, reduceIte, ↓reduceIte, Nat.reduceAdd, Z0, Z1, Z2, Z3, Z4, Z5, Nat.reduceLT, Z6, Z7, Int.reduceEq, Z8, Z9, Nat.reduceLeDiff, Za, Zb, Zc, Zd, Ze, Zf, bytesOf, Zg, Zh, Zi, Zj, Zk, Zl, Int.reduceLT, Int.reduceLE, Zm, Int.reduceToNat, Zn, Zo, Zp, Int.reduceAdd, Zq, Zr]
      exact ⟨rfl, rfl⟩
theorem containsNone {H : List AO} {j v : Nat} {L : List (List UInt8)} {t : List UInt8} (hj : H[j]? = some (.rows 1 v (L.map fun x => [.p (.s x)]))) (hn : t ∉ L) (hl : L.length ≤ 1000) :
    ACall Tryd.prog 41 [.gs j v 0 L.length, .p (.s t)] H (pureQ (.p (.b false)) H) := by
  refine call41 (by simp) ?_
  simp only [go_sem, Nat.reduceEqDiff, reduceIte, ↓reduceIte, Nat.reduceAdd, Z0, Z1, Z2, Z3, Z4, Z5, Nat.reduceLT, Z6, Z7, Int.reduceEq, Z8, Z9, Nat.reduceLeDiff, Za, Zb, Zc, Zd, Ze, Zf, bytesOf, Zg, Zh, Zi, Zj, Zk, Zl, Int.reduceLT, Int.reduceLE, Zm, Int.reduceToNat, Zn, Zo, Zp, Int.reduceAdd, Zq, Zr, mc41, mr41]
  refine acall_pure (indexNone hj hn hl) ?_
  simp only [go_sem, Nat.reduceEqDiff, reduceIte, ↓reduceIte, Nat.reduceAdd, Z0, Z1, Z2, Z3, Z4, Z5, Nat.reduceLT, Z6, Z7, Int.reduceEq, Z8, Z9, Nat.reduceLeDiff, Za, Zb, Zc, Zd, Ze, Zf, bytesOf, Zg, Zh, Zi, Zj, Zk, Zl, Int.reduceLT, Int.reduceLE, Zm, Int.reduceToNat, Zn, Zo, Zp, Int.reduceAdd, Zq, Zr]
  exact ⟨rfl, rfl⟩

def RdAt3 (n it vt i f : Nat) (L q : Int) : Prop := ∀ ip d H, PS n it vt ip H i d 0 0 → Reads n it vt ip i f [.ptr ip 0, .p (.i .i64 L), .p (.i .i64 q)] H
def RdBox (n it vt i f : Nat) (q : Int) : Prop := ∀ ip d H, PS n it vt ip H i d 0 0 → ∀ a b : Nat, H[a]? = some (.var [.ptr ip 0]) → H[b]? = some (.var [.p (.i .i64 q)]) → Reads n it vt ip i f [.ptr a 0, .ptr b 0] H

theorem pRowOne {n it vt i : Nat} {q : Int} (hi : i ≤ n) (hb : RdBox n it vt i 38 q) : RdAt3 n it vt i 28 1 q := by
  intro ip d H h
  have hip := get_lt h.pv
  obtain ⟨k', m', p', er⟩ := eR_eq n
  refine call28 (by simp) ?_
  simp only [go_sem, Nat.reduceEqDiff, reduceIte, ↓reduceIte, Nat.reduceAdd, Z0, Z1, Z2, Z3, Z4, Z5, Nat.reduceLT, Z6, Z7, Int.reduceEq, Z8, Z9, Nat.reduceLeDiff, Za, Zb, Zc, Zd, Ze, Zf, bytesOf, Zg, Zh, Zi, Zj, Zk, Zl, Int.reduceLT, Int.reduceLE, Zm, Int.reduceToNat, Zn, Zo, Zp, Int.reduceAdd, Zq, Zr, mc28, mr28, zl3_0]
  refine (hb ip d _ (h.ext _) _ _ (by rw [get_off0]; rfl) (by rw [get_off]; rfl)).mono ?_
  rintro r H2 ⟨rfl, h2, f2⟩
  have ga := f2.keep H.length (.var [.ptr ip 0]) (by rw [get_off0]; rfl) (by intro e; omega)
  have gb := f2.keep (H.length + 1) (.var [.p (.i .i64 q)]) (by rw [get_off]; rfl) (by intro e; omega)
  have gc := f2.keep (H.length + 2) (.var eZ) (by rw [get_off]; rfl) (by intro e; omega)
  have gd := f2.keep (H.length + 4) (.rows 1 0 ([[42]].map fun x => [.p (.s x)])) (by rw [get_off]; rfl) (by intro e; omega)
  have ge := f2.keep (H.length + 5) (.rows 1 0 [[.gs (H.length + 3) 0 0 3], [.gs (H.length + 4) 0 0 1]]) (by rw [get_off]; rfl) (by intro e; omega)
  have f2 := (Fr.ext (Q1 ip) H _).trans f2
  have ee : [AV.p (.i .i64 k'), .p (.s []), .p (.i .i64 m'), .p (.s []), .p (.i .i64 p'), .p .nl, .p .nl] = eR n := er.symm
  have hl2 := get_lt ge
  simp only [go_sem, Nat.reduceEqDiff, reduceIte, ↓reduceIte, Nat.reduceAdd, Z0, Z1, Z2, Z3, Z4, Z5, Nat.reduceLT, Z6, Z7, Int.reduceEq, Z8, Z9, Nat.reduceLeDiff, Za, Zb, Zc, Zd, Ze, Zf, bytesOf, Zg, Zh, Zi, Zj, Zk, Zl, Int.reduceLT, Int.reduceLE, Zm, Int.reduceToNat, Zn, Zo, Zp, Int.reduceAdd, Zq, Zr, er]
  rw [ee]
  have h3 := h2.ext [.var (eR n)]
  have f3 := f2.app [.var (eR n)]
  have ga := get_ext ga [.var (eR n)]
  have gc := get_ext gc [.var (eR n)]
  have gd := get_ext gd [.var (eR n)]
  have ge := get_ext ge [.var (eR n)]
  have g5 : (H2 ++ [AO.var (eR n)])[H2.length]? = some (.var (eR n)) := by rw [get_off0]; rfl
  generalize H2 ++ [AO.var (eR n)] = H3 at h3 f3 ga gc gd ge g5 ⊢
  generalize H2.length = b5 at g5 hl2 ⊢
  rw [eZ] at gc
  rw [er] at g5
  refine ⟨Unit, [1, 3, 6, 7, 9], fun _ st => st = ⟨[(1, .p (.i .i64 1)), (3, .ptr H.length 0), (6, .ptr (H.length + 2) 0), (7, .gs (H.length + 5) 0 0 2), (9, .ptr b5 0)], [], H3⟩, fun _ => 0, ⟨(), ?_⟩, ?_⟩
  · simp only [go_sem, Nat.reduceEqDiff, reduceIte, ↓reduceIte, Nat.reduceAdd, Z0, Z1, Z2, Z3, Z4, Z5, Nat.reduceLT, Z6, Z7, Int.reduceEq, Z8, Z9, Nat.reduceLeDiff, Za, Zb, Zc, Zd, Ze, Zf, bytesOf, Zg, Zh, Zi, Zj, Zk, Zl, Int.reduceLT, Int.reduceLE, Zm, Int.reduceToNat, Zn, Zo, Zp, Int.reduceAdd, Zq, Zr]
  · rintro _ _ rfl
    obtain ⟨a, d2, cd, ps, k2, s2, m2, p2, hP, ht2, hno, hk2⟩ := aftTok h3 hi
    have g7 : ∀ o, (H3.set (H.length + 2) o)[H.length + 2]? = some o := fun o => set_get gc
    have fin : Aft n it vt ip i (H3.set (H.length + 2) (.var (eR n))) ∧ Fr (Q1 ip) (Q1 ip) H (H3.set (H.length + 2) (.var (eR n))) := ⟨h3.put (by omega) (by have := get_lt h.tv; omega) _, f3.setNew (by omega) _⟩
    rw [er] at fin
    simp only [go_sem, Nat.reduceEqDiff, reduceIte, ↓reduceIte, Nat.reduceAdd, Z0, Z1, Z2, Z3, Z4, Z5, Nat.reduceLT, Z6, Z7, Int.reduceEq, Z8, Z9, Nat.reduceLeDiff, Za, Zb, Zc, Zd, Ze, Zf, bytesOf, Zg, Zh, Zi, Zj, Zk, Zl, Int.reduceLT, Int.reduceLE, Zm, Int.reduceToNat, Zn, Zo, Zp, Int.reduceAdd, Zq, Zr]
    refine drw_same ?_
    simp only [go_sem, Nat.reduceEqDiff, reduceIte, ↓reduceIte, Nat.reduceAdd, Z0, Z1, Z2, Z3, Z4, Z5, Nat.reduceLT, Z6, Z7, Int.reduceEq, Z8, Z9, Nat.reduceLeDiff, Za, Zb, Zc, Zd, Ze, Zf, bytesOf, Zg, Zh, Zi, Zj, Zk, Zl, Int.reduceLT, Int.reduceLE, Zm, Int.reduceToNat, Zn, Zo, Zp, Int.reduceAdd, Zq, Zr, ga]
    refine pcall_pure (fun A => pKind (hP.ext A) ht2 7) (Hext.refl _) ?_
    by_cases hc : cd = 0 ∧ k2 = 7
    · obtain ⟨rfl, rfl⟩ := hc
      have : s2 = [41] := by
        rcases hk2 with h | h | ⟨_, h⟩
        · exact (h rfl).elim
        · cases h
        · exact h
      subst this
      simp only [go_sem, Nat.reduceEqDiff, reduceIte, ↓reduceIte, Nat.reduceAdd, Z0, Z1, Z2, Z3, Z4, Z5, Nat.reduceLT, Z6, Z7, Int.reduceEq, Z8, Z9, Nat.reduceLeDiff, Za, Zb, Zc, Zd, Ze, Zf, bytesOf, Zg, Zh, Zi, Zj, Zk, Zl, Int.reduceLT, Int.reduceLE, Zm, Int.reduceToNat, Zn, Zo, Zp, Int.reduceAdd, Zq, Zr, decide_true, Bool.and_true, ga, ge]
      refine pcall_pure (fun A => pNext (hP.ext A) ht2) (Hext.refl _) ?_
      simp only [go_sem, Nat.reduceEqDiff, reduceIte, ↓reduceIte, Nat.reduceAdd, Z0, Z1, Z2, Z3, Z4, Z5, Nat.reduceLT, Z6, Z7, Int.reduceEq, Z8, Z9, Nat.reduceLeDiff, Za, Zb, Zc, Zd, Ze, Zf, bytesOf, Zg, Zh, Zi, Zj, Zk, Zl, Int.reduceLT, Int.reduceLE, Zm, Int.reduceToNat, Zn, Zo, Zp, Int.reduceAdd, Zq, Zr, tkC]
      refine acall_pure (containsNone gd (by decide) (by decide)) ?_
      simp only [go_sem, Nat.reduceEqDiff, reduceIte, ↓reduceIte, Nat.reduceAdd, Z0, Z1, Z2, Z3, Z4, Z5, Nat.reduceLT, Z6, Z7, Int.reduceEq, Z8, Z9, Nat.reduceLeDiff, Za, Zb, Zc, Zd, Ze, Zf, bytesOf, Zg, Zh, Zi, Zj, Zk, Zl, Int.reduceLT, Int.reduceLE, Zm, Int.reduceToNat, Zn, Zo, Zp, Int.reduceAdd, Zq, Zr]
      simp only [go_sem, Nat.reduceEqDiff, reduceIte, ↓reduceIte, Nat.reduceAdd, Z0, Z1, Z2, Z3, Z4, Z5, Nat.reduceLT, Z6, Z7, Int.reduceEq, Z8, Z9, Nat.reduceLeDiff, Za, Zb, Zc, Zd, Ze, Zf, bytesOf, Zg, Zh, Zi, Zj, Zk, Zl, Int.reduceLT, Int.reduceLE, Zm, Int.reduceToNat, Zn, Zo, Zp, Int.reduceAdd, Zq, Zr, g5, gc, g7]
      exact ⟨by rw [er], fin⟩
    · have e : (decide (cd = 0) && decide (k2 = 7)) = false := by
        by_cases h0 : cd = 0 <;> by_cases h7 : k2 = 7 <;> simp [h0, h7] at hc ⊢
      simp only [go_sem, Nat.reduceEqDiff, reduceIte, ↓reduceIte, Nat.reduceAdd, Z0, Z1, Z2, Z3, Z4, Z5, Nat.reduceLT, Z6, Z7, Int.reduceEq, Z8, Z9, Nat.reduceLeDiff, Za, Zb, Zc, Zd, Ze, Zf, bytesOf, Zg, Zh, Zi, Zj, Zk, Zl, Int.reduceLT, Int.reduceLE, Zm, Int.reduceToNat, Zn, Zo, Zp, Int.reduceAdd, Zq, Zr, e, ga]
      simp only [go_sem, Nat.reduceEqDiff, reduceIte, ↓reduceIte, Nat.reduceAdd, Z0, Z1, Z2, Z3, Z4, Z5, Nat.reduceLT, Z6, Z7, Int.reduceEq, Z8, Z9, Nat.reduceLeDiff, Za, Zb, Zc, Zd, Ze, Zf, bytesOf, Zg, Zh, Zi, Zj, Zk, Zl, Int.reduceLT, Int.reduceLE, Zm, Int.reduceToNat, Zn, Zo, Zp, Int.reduceAdd, Zq, Zr, g5, gc, g7]
      exact ⟨by rw [er], fin⟩
theorem pRowZero {n it vt i : Nat} {q : Int} (hi : i ≤ n) (hb : RdBox n it vt i 40 q) : RdAt3 n it vt i 28 0 q := by
  intro ip d H h
  have hip := get_lt h.pv
  obtain ⟨k', m', p', er⟩ := eR_eq n
  refine call28 (by simp) ?_
  simp only [go_sem, Nat.reduceEqDiff, reduceIte, ↓reduceIte, Nat.reduceAdd, Z0, Z1, Z2, Z3, Z4, Z5, Nat.reduceLT, Z6, Z7, Int.reduceEq, Z8, Z9, Nat.reduceLeDiff, Za, Zb, Zc, Zd, Ze, Zf, bytesOf, Zg, Zh, Zi, Zj, Zk, Zl, Int.reduceLT, Int.reduceLE, Zm, Int.reduceToNat, Zn, Zo, Zp, Int.reduceAdd, Zq, Zr, mc28, mr28, zl3_0]
  refine (hb ip d _ (h.ext _) _ _ (by rw [get_off0]; rfl) (by rw [get_off]; rfl)).mono ?_
  rintro r H2 ⟨rfl, h2, f2⟩
  have ga := f2.keep H.length (.var [.ptr ip 0]) (by rw [get_off0]; rfl) (by intro e; omega)
  have gb := f2.keep (H.length + 1) (.var [.p (.i .i64 q)]) (by rw [get_off]; rfl) (by intro e; omega)
  have gc := f2.keep (H.length + 2) (.var eZ) (by rw [get_off]; rfl) (by intro e; omega)
  have gd := f2.keep (H.length + 3) (.rows 1 0 ([[43], [45], [94]].map fun x => [.p (.s x)])) (by rw [get_off]; rfl) (by intro e; omega)
  have ge := f2.keep (H.length + 5) (.rows 1 0 [[.gs (H.length + 3) 0 0 3], [.gs (H.length + 4) 0 0 1]]) (by rw [get_off]; rfl) (by intro e; omega)
  have f2 := (Fr.ext (Q1 ip) H _).trans f2
  have ee : [AV.p (.i .i64 k'), .p (.s []), .p (.i .i64 m'), .p (.s []), .p (.i .i64 p'), .p .nl, .p .nl] = eR n := er.symm
  have hl2 := get_lt ge
  simp only [go_sem, Nat.reduceEqDiff, reduceIte, ↓reduceIte, Nat.reduceAdd, Z0, Z1, Z2, Z3, Z4, Z5, Nat.reduceLT, Z6, Z7, Int.reduceEq, Z8, Z9, Nat.reduceLeDiff, Za, Zb, Zc, Zd, Ze, Zf, bytesOf, Zg, Zh, Zi, Zj, Zk, Zl, Int.reduceLT, Int.reduceLE, Zm, Int.reduceToNat, Zn, Zo, Zp, Int.reduceAdd, Zq, Zr, er]
  rw [ee]
  have h3 := h2.ext [.var (eR n)]
  have f3 := f2.app [.var (eR n)]
  have ga := get_ext ga [.var (eR n)]
  have gc := get_ext gc [.var (eR n)]
  have gd := get_ext gd [.var (eR n)]
  have ge := get_ext ge [.var (eR n)]
  have g5 : (H2 ++ [AO.var (eR n)])[H2.length]? = some (.var (eR n)) := by rw [get_off0]; rfl
  generalize H2 ++ [AO.var (eR n)] = H3 at h3 f3 ga gc gd ge g5 ⊢
  generalize H2.length = b5 at g5 hl2 ⊢
  rw [eZ] at gc
  rw [er] at g5
  refine ⟨Unit, [1, 3, 6, 7, 9], fun _ st => st = ⟨[(1, .p (.i .i64 0)), (3, .ptr H.length 0), (6, .ptr (H.length + 2) 0), (7, .gs (H.length + 5) 0 0 2), (9, .ptr b5 0)], [], H3⟩, fun _ => 0, ⟨(), ?_⟩, ?_⟩
  · simp only [go_sem, Nat.reduceEqDiff, reduceIte, ↓reduceIte, Nat.reduceAdd, Z0, Z1, Z2, Z3, Z4, Z5, Nat.reduceLT, Z6, Z7, Int.reduceEq, Z8, Z9, Nat.reduceLeDiff, Za, Zb, Zc, Zd, Ze, Zf, bytesOf, Zg, Zh, Zi, Zj, Zk, Zl, Int.reduceLT, Int.reduceLE, Zm, Int.reduceToNat, Zn, Zo, Zp, Int.reduceAdd, Zq, Zr]
  · rintro _ _ rfl
    obtain ⟨a, d2, cd, ps, k2, s2, m2, p2, hP, ht2, hno, hk2⟩ := aftTok h3 hi
    have g7 : ∀ o, (H3.set (H.length + 2) o)[H.length + 2]? = some o := fun o => set_get gc
    have fin : Aft n it vt ip i (H3.set (H.length + 2) (.var (eR n))) ∧ Fr (Q1 ip) (Q1 ip) H (H3.set (H.length + 2) (.var (eR n))) := ⟨h3.put (by omega) (by have := get_lt h.tv; omega) _, f3.setNew (by omega) _⟩
    rw [er] at fin
    simp only [go_sem, Nat.reduceEqDiff, reduceIte, ↓reduceIte, Nat.reduceAdd, Z0, Z1, Z2, Z3, Z4, Z5, Nat.reduceLT, Z6, Z7, Int.reduceEq, Z8, Z9, Nat.reduceLeDiff, Za, Zb, Zc, Zd, Ze, Zf, bytesOf, Zg, Zh, Zi, Zj, Zk, Zl, Int.reduceLT, Int.reduceLE, Zm, Int.reduceToNat, Zn, Zo, Zp, Int.reduceAdd, Zq, Zr]
    refine drw_same ?_
    simp only [go_sem, Nat.reduceEqDiff, reduceIte, ↓reduceIte, Nat.reduceAdd, Z0, Z1, Z2, Z3, Z4, Z5, Nat.reduceLT, Z6, Z7, Int.reduceEq, Z8, Z9, Nat.reduceLeDiff, Za, Zb, Zc, Zd, Ze, Zf, bytesOf, Zg, Zh, Zi, Zj, Zk, Zl, Int.reduceLT, Int.reduceLE, Zm, Int.reduceToNat, Zn, Zo, Zp, Int.reduceAdd, Zq, Zr, ga]
    refine pcall_pure (fun A => pKind (hP.ext A) ht2 7) (Hext.refl _) ?_
    by_cases hc : cd = 0 ∧ k2 = 7
    · obtain ⟨rfl, rfl⟩ := hc
      have : s2 = [41] := by
        rcases hk2 with h | h | ⟨_, h⟩
        · exact (h rfl).elim
        · cases h
        · exact h
      subst this
      simp only [go_sem, Nat.reduceEqDiff, reduceIte, ↓reduceIte, Nat.reduceAdd, Z0, Z1, Z2, Z3, Z4, Z5, Nat.reduceLT, Z6, Z7, Int.reduceEq, Z8, Z9, Nat.reduceLeDiff, Za, Zb, Zc, Zd, Ze, Zf, bytesOf, Zg, Zh, Zi, Zj, Zk, Zl, Int.reduceLT, Int.reduceLE, Zm, Int.reduceToNat, Zn, Zo, Zp, Int.reduceAdd, Zq, Zr, decide_true, Bool.and_true, ga, ge]
      refine pcall_pure (fun A => pNext (hP.ext A) ht2) (Hext.refl _) ?_
      simp only [go_sem, Nat.reduceEqDiff, reduceIte, ↓reduceIte, Nat.reduceAdd, Z0, Z1, Z2, Z3, Z4, Z5, Nat.reduceLT, Z6, Z7, Int.reduceEq, Z8, Z9, Nat.reduceLeDiff, Za, Zb, Zc, Zd, Ze, Zf, bytesOf, Zg, Zh, Zi, Zj, Zk, Zl, Int.reduceLT, Int.reduceLE, Zm, Int.reduceToNat, Zn, Zo, Zp, Int.reduceAdd, Zq, Zr, tkC]
      refine acall_pure (containsNone gd (by decide) (by decide)) ?_
      simp only [go_sem, Nat.reduceEqDiff, reduceIte, ↓reduceIte, Nat.reduceAdd, Z0, Z1, Z2, Z3, Z4, Z5, Nat.reduceLT, Z6, Z7, Int.reduceEq, Z8, Z9, Nat.reduceLeDiff, Za, Zb, Zc, Zd, Ze, Zf, bytesOf, Zg, Zh, Zi, Zj, Zk, Zl, Int.reduceLT, Int.reduceLE, Zm, Int.reduceToNat, Zn, Zo, Zp, Int.reduceAdd, Zq, Zr]
      simp only [go_sem, Nat.reduceEqDiff, reduceIte, ↓reduceIte, Nat.reduceAdd, Z0, Z1, Z2, Z3, Z4, Z5, Nat.reduceLT, Z6, Z7, Int.reduceEq, Z8, Z9, Nat.reduceLeDiff, Za, Zb, Zc, Zd, Ze, Zf, bytesOf, Zg, Zh, Zi, Zj, Zk, Zl, Int.reduceLT, Int.reduceLE, Zm, Int.reduceToNat, Zn, Zo, Zp, Int.reduceAdd, Zq, Zr, g5, gc, g7]
      exact ⟨by rw [er], fin⟩
    · have e : (decide (cd = 0) && decide (k2 = 7)) = false := by
        by_cases h0 : cd = 0 <;> by_cases h7 : k2 = 7 <;> simp [h0, h7] at hc ⊢
      simp only [go_sem, Nat.reduceEqDiff, reduceIte, ↓reduceIte, Nat.reduceAdd, Z0, Z1, Z2, Z3, Z4, Z5, Nat.reduceLT, Z6, Z7, Int.reduceEq, Z8, Z9, Nat.reduceLeDiff, Za, Zb, Zc, Zd, Ze, Zf, bytesOf, Zg, Zh, Zi, Zj, Zk, Zl, Int.reduceLT, Int.reduceLE, Zm, Int.reduceToNat, Zn, Zo, Zp, Int.reduceAdd, Zq, Zr, e, ga]
      simp only [go_sem, Nat.reduceEqDiff, reduceIte, ↓reduceIte, Nat.reduceAdd, Z0, Z1, Z2, Z3, Z4, Z5, Nat.reduceLT, Z6, Z7, Int.reduceEq, Z8, Z9, Nat.reduceLeDiff, Za, Zb, Zc, Zd, Ze, Zf, bytesOf, Zg, Zh, Zi, Zj, Zk, Zl, Int.reduceLT, Int.reduceLE, Zm, Int.reduceToNat, Zn, Zo, Zp, Int.reduceAdd, Zq, Zr, g5, gc, g7]
      exact ⟨by rw [er], fin⟩

theorem pRow2 {n it vt i : Nat} {q : Int} (hb : RdAt3 n it vt i 28 1 q) : RdBox n it vt i 40 q := by
  intro ip d H h a b ha hbq
  have hip := get_lt h.pv
  have hax : ∀ A, (H ++ A)[a]? = _ := fun A => get_ext ha A
  have hbx : ∀ A, (H ++ A)[b]? = _ := fun A => get_ext hbq A
  obtain ⟨k', m', p', er⟩ := eR_eq n
  refine call40 (by simp) ?_
  simp only [go_sem, Nat.reduceEqDiff, reduceIte, ↓reduceIte, Nat.reduceAdd, Z0, Z1, Z2, Z3, Z4, Z5, Nat.reduceLT, Z6, Z7, Int.reduceEq, Z8, Z9, Nat.reduceLeDiff, Za, Zb, Zc, Zd, Ze, Zf, bytesOf, Zg, Zh, Zi, Zj, Zk, Zl, Int.reduceLT, Int.reduceLE, Zm, Int.reduceToNat, Zn, Zo, Zp, Int.reduceAdd, Zq, Zr, mc40, mr40, zl3_0, hax, hbx]
  refine (hb ip d _ (h.ext _)).mono ?_
  rintro r H2 ⟨rfl, h2, f2⟩
  have g4 := f2.keep _ _ (show (H ++ [AO.var eZ])[H.length]? = some (AO.var eZ) by rw [get_off0]; rfl) (by intro e; omega)
  have f2 := (Fr.ext (Q1 ip) H [AO.var eZ]).trans f2
  rw [eZ] at g4
  have g7 : ∀ o, (H2.set H.length o)[H.length]? = some o := fun o => set_get g4
  simp only [go_sem, Nat.reduceEqDiff, reduceIte, ↓reduceIte, Nat.reduceAdd, Z0, Z1, Z2, Z3, Z4, Z5, Nat.reduceLT, Z6, Z7, Int.reduceEq, Z8, Z9, Nat.reduceLeDiff, Za, Zb, Zc, Zd, Ze, Zf, bytesOf, Zg, Zh, Zi, Zj, Zk, Zl, Int.reduceLT, Int.reduceLE, Zm, Int.reduceToNat, Zn, Zo, Zp, Int.reduceAdd, Zq, Zr, er, g4, g7]
  exact ⟨h2.put hip (get_lt h.tv) _, f2.setNew (Nat.le_refl _) _⟩

theorem pOnce1 {n it vt i : Nat} {q : Int} (hb : RdAt3 n it vt i 28 0 q) : RdBox n it vt i 27 q := by
  intro ip d H h a b ha hbq
  have hip := get_lt h.pv
  have hax : ∀ A, (H ++ A)[a]? = _ := fun A => get_ext ha A
  have hbx : ∀ A, (H ++ A)[b]? = _ := fun A => get_ext hbq A
  obtain ⟨k', m', p', er⟩ := eR_eq n
  refine call27 (by simp) ?_
  simp only [go_sem, Nat.reduceEqDiff, reduceIte, ↓reduceIte, Nat.reduceAdd, Z0, Z1, Z2, Z3, Z4, Z5, Nat.reduceLT, Z6, Z7, Int.reduceEq, Z8, Z9, Nat.reduceLeDiff, Za, Zb, Zc, Zd, Ze, Zf, bytesOf, Zg, Zh, Zi, Zj, Zk, Zl, Int.reduceLT, Int.reduceLE, Zm, Int.reduceToNat, Zn, Zo, Zp, Int.reduceAdd, Zq, Zr, mc27, mr27, zl3_0, hax, hbx]
  refine (hb ip d _ (h.ext _)).mono ?_
  rintro r H2 ⟨rfl, h2, f2⟩
  have g4 := f2.keep _ _ (show (H ++ [AO.var eZ])[H.length]? = some (AO.var eZ) by rw [get_off0]; rfl) (by intro e; omega)
  have f2 := (Fr.ext (Q1 ip) H [AO.var eZ]).trans f2
  rw [eZ] at g4
  have g7 : ∀ o, (H2.set H.length o)[H.length]? = some o := fun o => set_get g4
  simp only [go_sem, Nat.reduceEqDiff, reduceIte, ↓reduceIte, Nat.reduceAdd, Z0, Z1, Z2, Z3, Z4, Z5, Nat.reduceLT, Z6, Z7, Int.reduceEq, Z8, Z9, Nat.reduceLeDiff, Za, Zb, Zc, Zd, Ze, Zf, bytesOf, Zg, Zh, Zi, Zj, Zk, Zl, Int.reduceLT, Int.reduceLE, Zm, Int.reduceToNat, Zn, Zo, Zp, Int.reduceAdd, Zq, Zr, er, g4, g7]
  exact ⟨h2.put hip (get_lt h.tv) _, f2.setNew (Nat.le_refl _) _⟩

theorem pOnce2 {n it vt i : Nat} {q : Int} (hb : RdAt3 n it vt i 19 1 q) : RdBox n it vt i 29 q := by
  intro ip d H h a b ha hbq
  have hip := get_lt h.pv
  have hax : ∀ A, (H ++ A)[a]? = _ := fun A => get_ext ha A
  have hbx : ∀ A, (H ++ A)[b]? = _ := fun A => get_ext hbq A
  obtain ⟨k', m', p', er⟩ := eR_eq n
  refine call29 (by simp) ?_
  simp only [go_sem, Nat.reduceEqDiff, reduceIte, ↓reduceIte, Nat.reduceAdd, Z0, Z1, Z2, Z3, Z4, Z5, Nat.reduceLT, Z6, Z7, Int.reduceEq, Z8, Z9, Nat.reduceLeDiff, Za, Zb, Zc, Zd, Ze, Zf, bytesOf, Zg, Zh, Zi, Zj, Zk, Zl, Int.reduceLT, Int.reduceLE, Zm, Int.reduceToNat, Zn, Zo, Zp, Int.reduceAdd, Zq, Zr, mc29, mr29, zl3_0, hax, hbx]
  refine (hb ip d _ (h.ext _)).mono ?_
  rintro r H2 ⟨rfl, h2, f2⟩
  have g4 := f2.keep _ _ (show (H ++ [AO.var eZ])[H.length]? = some (AO.var eZ) by rw [get_off0]; rfl) (by intro e; omega)
  have f2 := (Fr.ext (Q1 ip) H [AO.var eZ]).trans f2
  rw [eZ] at g4
  have g7 : ∀ o, (H2.set H.length o)[H.length]? = some o := fun o => set_get g4
  simp only [go_sem, Nat.reduceEqDiff, reduceIte, ↓reduceIte, Nat.reduceAdd, Z0, Z1, Z2, Z3, Z4, Z5, Nat.reduceLT, Z6, Z7, Int.reduceEq, Z8, Z9, Nat.reduceLeDiff, Za, Zb, Zc, Zd, Ze, Zf, bytesOf, Zg, Zh, Zi, Zj, Zk, Zl, Int.reduceLT, Int.reduceLE, Zm, Int.reduceToNat, Zn, Zo, Zp, Int.reduceAdd, Zq, Zr, er, g4, g7]
  exact ⟨h2.put hip (get_lt h.tv) _, f2.setNew (Nat.le_refl _) _⟩
end Go.Proofs.YtpaaiigpnbiglaaDoor.Dm

/- Brackets: comparisons, expressions. -/
set_option linter.all false
namespace Go.Proofs.YtpaaiigpnbiglaaDoor.Dm
open Go.AM Mc

theorem pOnceOne {n it vt i : Nat} {q : Int} (hi : i ≤ n) (hb : RdBox n it vt i 27 q) : RdAt3 n it vt i 19 1 q := by
  intro ip d H h
  have hip := get_lt h.pv
  obtain ⟨k', m', p', er⟩ := eR_eq n
  refine call19 (by simp) ?_
  simp only [go_sem, Nat.reduceEqDiff, reduceIte, ↓reduceIte, Nat.reduceAdd, Z0, Z1, Z2, Z3, Z4, Z5, Nat.reduceLT, Z6, Z7, Int.reduceEq, Z8, Z9, Nat.reduceLeDiff, Za, Zb, Zc, Zd, Ze, Zf, bytesOf, Zg, Zh, Zi, Zj, Zk, Zl, Int.reduceLT, Int.reduceLE, Zm, Int.reduceToNat, Zn, Zo, Zp, Int.reduceAdd, Zq, Zr, mc19, mr19, zl3_0]
  refine (hb ip d _ (h.ext _) _ _ (by rw [get_off0]; rfl) (by rw [get_off]; rfl)).mono ?_
  rintro r H2 ⟨rfl, h2, f2⟩
  have ga := f2.keep H.length (.var [.ptr ip 0]) (by rw [get_off0]; rfl) (by intro e; omega)
  have gc := f2.keep (H.length + 2) (.var eZ) (by rw [get_off]; rfl) (by intro e; omega)
  have gd := f2.keep (H.length + 4) (.rows 1 0 [[.p (.s [61])], [.p (.s [60])]]) (by rw [get_off]; rfl) (by intro e; omega)
  have ge := f2.keep (H.length + 5) (.rows 1 0 [[.gs (H.length + 3) 0 0 1], [.gs (H.length + 4) 0 0 2]]) (by rw [get_off]; rfl) (by intro e; omega)
  have f2 := (Fr.ext (Q1 ip) H _).trans f2
  have hl2 := get_lt ge
  have ee : [AV.p (.i .i64 k'), .p (.s []), .p (.i .i64 m'), .p (.s []), .p (.i .i64 p'), .p .nl, .p .nl] = eR n := er.symm
  have ga := get_ext ga [.var (eR n)]
  have gc := get_ext gc [.var (eR n)]
  have gd := get_ext gd [.var (eR n)]
  have ge := get_ext ge [.var (eR n)]
  have h3 := h2.ext [.var (eR n)]
  have f3 := f2.app [.var (eR n)]
  have g5 : (H2 ++ [AO.var (eR n)])[H2.length]? = some (.var (eR n)) := by rw [get_off0]; rfl
  obtain ⟨a, d2, cd, ps, k2, s2, m2, p2, hP, ht2, hno, hk2⟩ := aftTok h3 hi
  simp only [go_sem, Nat.reduceEqDiff, reduceIte, ↓reduceIte, Nat.reduceAdd, Z0, Z1, Z2, Z3, Z4, Z5, Nat.reduceLT, Z6, Z7, Int.reduceEq, Z8, Z9, Nat.reduceLeDiff, Za, Zb, Zc, Zd, Ze, Zf, bytesOf, Zg, Zh, Zi, Zj, Zk, Zl, Int.reduceLT, Int.reduceLE, Zm, Int.reduceToNat, Zn, Zo, Zp, Int.reduceAdd, Zq, Zr, er]
  rw [ee]
  have hax : ∀ A, ((H2 ++ [AO.var (eR n)]) ++ A)[H.length]? = _ := fun A => get_ext ga A
  simp only [go_sem, Nat.reduceEqDiff, reduceIte, ↓reduceIte, Nat.reduceAdd, Z0, Z1, Z2, Z3, Z4, Z5, Nat.reduceLT, Z6, Z7, Int.reduceEq, Z8, Z9, Nat.reduceLeDiff, Za, Zb, Zc, Zd, Ze, Zf, bytesOf, Zg, Zh, Zi, Zj, Zk, Zl, Int.reduceLT, Int.reduceLE, Zm, Int.reduceToNat, Zn, Zo, Zp, Int.reduceAdd, Zq, Zr, ga]
  refine acall_gen (pNext hP ht2) (fun H3 => H3 = H2 ++ [AO.var (eR n)]) rfl (fun H3 hh => ?_)
  rw [← hh] at ga gc gd ge h3 f3 g5 hP
  have hll : H3.length = H2.length + 1 := by rw [hh]; simp
  clear hh hax
  generalize H2.length = b5 at g5 hl2 hll ⊢
  have ga := get_ext ga [.var (tkC k2 s2 m2 p2)]
  have gc := get_ext gc [.var (tkC k2 s2 m2 p2)]
  have gd := get_ext gd [.var (tkC k2 s2 m2 p2)]
  have ge := get_ext ge [.var (tkC k2 s2 m2 p2)]
  have h3 := h3.ext [.var (tkC k2 s2 m2 p2)]
  have f3 := f3.app [.var (tkC k2 s2 m2 p2)]
  have g5 := get_ext g5 [.var (tkC k2 s2 m2 p2)]
  have hP := hP.ext [.var (tkC k2 s2 m2 p2)]
  have ek : [AV.p (.i .i64 k2), .p (.s s2), .p (.i .i64 m2), .p (.i .i64 p2)] = tkC k2 s2 m2 p2 := rfl
  simp only [go_sem, Nat.reduceEqDiff, reduceIte, ↓reduceIte, Nat.reduceAdd, Z0, Z1, Z2, Z3, Z4, Z5, Nat.reduceLT, Z6, Z7, Int.reduceEq, Z8, Z9, Nat.reduceLeDiff, Za, Zb, Zc, Zd, Ze, Zf, bytesOf, Zg, Zh, Zi, Zj, Zk, Zl, Int.reduceLT, Int.reduceLE, Zm, Int.reduceToNat, Zn, Zo, Zp, Int.reduceAdd, Zq, Zr, tkC]
  rw [ek]
  generalize H3 ++ [.var (tkC k2 s2 m2 p2)] = H4 at h3 f3 ga gc gd ge g5 hP ⊢
  rw [eZ] at gc
  rw [er] at g5
  simp only [go_sem, Nat.reduceEqDiff, reduceIte, ↓reduceIte, Nat.reduceAdd, Z0, Z1, Z2, Z3, Z4, Z5, Nat.reduceLT, Z6, Z7, Int.reduceEq, Z8, Z9, Nat.reduceLeDiff, Za, Zb, Zc, Zd, Ze, Zf, bytesOf, Zg, Zh, Zi, Zj, Zk, Zl, Int.reduceLT, Int.reduceLE, Zm, Int.reduceToNat, Zn, Zo, Zp, Int.reduceAdd, Zq, Zr, ge]
  have g7 : ∀ o, (H4.set (H.length + 2) o)[H.length + 2]? = some o := fun o => set_get gc
  have fin : Aft n it vt ip i (H4.set (H.length + 2) (.var (eR n))) ∧ Fr (Q1 ip) (Q1 ip) H (H4.set (H.length + 2) (.var (eR n))) := ⟨h3.put (by omega) (by have := get_lt h.tv; omega) _, f3.setNew (by omega) _⟩
  rw [er] at fin
  intro _
  refine ⟨Nat, [3, 6, 9, 27, 28, 29], fun x st => x ≤ 2 ∧ st = ⟨[(3, .ptr H.length 0), (6, .ptr (H.length + 2) 0), (9, .ptr b5 0), (27, .gs (H.length + 4) 0 0 2), (28, .p (.i .i64 2)), (29, .p (.i .i64 x))], [], H4⟩, fun x => 2 - x, ⟨0, ?_⟩, ?_⟩
  · simp only [go_sem, Nat.reduceEqDiff, reduceIte, ↓reduceIte, Nat.reduceAdd, Z0, Z1, Z2, Z3, Z4, Z5, Nat.reduceLT, Z6, Z7, Int.reduceEq, Z8, Z9, Nat.reduceLeDiff, Za, Zb, Zc, Zd, Ze, Zf, bytesOf, Zg, Zh, Zi, Zj, Zk, Zl, Int.reduceLT, Int.reduceLE, Zm, Int.reduceToNat, Zn, Zo, Zp, Int.reduceAdd, Zq, Zr]
  · rintro x _ ⟨hx, rfl⟩
    have hc : x = 0 ∨ x = 1 ∨ x = 2 := by omega
    rcases hc with rfl | rfl | rfl
    rotate_left 2
    · simp only [go_sem, Nat.reduceEqDiff, reduceIte, ↓reduceIte, Nat.reduceAdd, Z0, Z1, Z2, Z3, Z4, Z5, Nat.reduceLT, Z6, Z7, Int.reduceEq, Z8, Z9, Nat.reduceLeDiff, Za, Zb, Zc, Zd, Ze, Zf, bytesOf, Zg, Zh, Zi, Zj, Zk, Zl, Int.reduceLT, Int.reduceLE, Zm, Int.reduceToNat, Zn, Zo, Zp, Int.reduceAdd, Zq, Zr, g5, gc, g7]
      exact ⟨by rw [er], fin⟩
    · simp only [go_sem, Nat.reduceEqDiff, reduceIte, ↓reduceIte, Nat.reduceAdd, Z0, Z1, Z2, Z3, Z4, Z5, Nat.reduceLT, Z6, Z7, Int.reduceEq, Z8, Z9, Nat.reduceLeDiff, Za, Zb, Zc, Zd, Ze, Zf, bytesOf, Zg, Zh, Zi, Zj, Zk, Zl, Int.reduceLT, Int.reduceLE, Zm, Int.reduceToNat, Zn, Zo, Zp, Int.reduceAdd, Zq, Zr, ga, gd]
      refine acall_pure (pTakeF hP ht2 (hno _ (by decide))) ?_
      simp only [go_sem, Nat.reduceEqDiff, reduceIte, ↓reduceIte, Nat.reduceAdd, Z0, Z1, Z2, Z3, Z4, Z5, Nat.reduceLT, Z6, Z7, Int.reduceEq, Z8, Z9, Nat.reduceLeDiff, Za, Zb, Zc, Zd, Ze, Zf, bytesOf, Zg, Zh, Zi, Zj, Zk, Zl, Int.reduceLT, Int.reduceLE, Zm, Int.reduceToNat, Zn, Zo, Zp, Int.reduceAdd, Zq, Zr]
      exact ⟨1, ⟨by decide, rfl⟩, by decide⟩
    · simp only [go_sem, Nat.reduceEqDiff, reduceIte, ↓reduceIte, Nat.reduceAdd, Z0, Z1, Z2, Z3, Z4, Z5, Nat.reduceLT, Z6, Z7, Int.reduceEq, Z8, Z9, Nat.reduceLeDiff, Za, Zb, Zc, Zd, Ze, Zf, bytesOf, Zg, Zh, Zi, Zj, Zk, Zl, Int.reduceLT, Int.reduceLE, Zm, Int.reduceToNat, Zn, Zo, Zp, Int.reduceAdd, Zq, Zr, ga, gd]
      refine acall_pure (pTakeF hP ht2 (hno _ (by decide))) ?_
      simp only [go_sem, Nat.reduceEqDiff, reduceIte, ↓reduceIte, Nat.reduceAdd, Z0, Z1, Z2, Z3, Z4, Z5, Nat.reduceLT, Z6, Z7, Int.reduceEq, Z8, Z9, Nat.reduceLeDiff, Za, Zb, Zc, Zd, Ze, Zf, bytesOf, Zg, Zh, Zi, Zj, Zk, Zl, Int.reduceLT, Int.reduceLE, Zm, Int.reduceToNat, Zn, Zo, Zp, Int.reduceAdd, Zq, Zr]
      exact ⟨2, ⟨by decide, rfl⟩, by decide⟩

theorem pOnceZero {n it vt i : Nat} {q : Int} (hi : i ≤ n) (hb : RdBox n it vt i 29 q) : RdAt3 n it vt i 19 0 q := by
  intro ip d H h
  have hip := get_lt h.pv
  obtain ⟨k', m', p', er⟩ := eR_eq n
  refine call19 (by simp) ?_
  simp only [go_sem, Nat.reduceEqDiff, reduceIte, ↓reduceIte, Nat.reduceAdd, Z0, Z1, Z2, Z3, Z4, Z5, Nat.reduceLT, Z6, Z7, Int.reduceEq, Z8, Z9, Nat.reduceLeDiff, Za, Zb, Zc, Zd, Ze, Zf, bytesOf, Zg, Zh, Zi, Zj, Zk, Zl, Int.reduceLT, Int.reduceLE, Zm, Int.reduceToNat, Zn, Zo, Zp, Int.reduceAdd, Zq, Zr, mc19, mr19, zl3_0]
  refine (hb ip d _ (h.ext _) _ _ (by rw [get_off0]; rfl) (by rw [get_off]; rfl)).mono ?_
  rintro r H2 ⟨rfl, h2, f2⟩
  have ga := f2.keep H.length (.var [.ptr ip 0]) (by rw [get_off0]; rfl) (by intro e; omega)
  have gc := f2.keep (H.length + 2) (.var eZ) (by rw [get_off]; rfl) (by intro e; omega)
  have gd := f2.keep (H.length + 3) (.rows 1 0 [[.p (.s [58, 61])]]) (by rw [get_off]; rfl) (by intro e; omega)
  have ge := f2.keep (H.length + 5) (.rows 1 0 [[.gs (H.length + 3) 0 0 1], [.gs (H.length + 4) 0 0 2]]) (by rw [get_off]; rfl) (by intro e; omega)
  have f2 := (Fr.ext (Q1 ip) H _).trans f2
  have hl2 := get_lt ge
  have ee : [AV.p (.i .i64 k'), .p (.s []), .p (.i .i64 m'), .p (.s []), .p (.i .i64 p'), .p .nl, .p .nl] = eR n := er.symm
  have ga := get_ext ga [.var (eR n)]
  have gc := get_ext gc [.var (eR n)]
  have gd := get_ext gd [.var (eR n)]
  have ge := get_ext ge [.var (eR n)]
  have h3 := h2.ext [.var (eR n)]
  have f3 := f2.app [.var (eR n)]
  have g5 : (H2 ++ [AO.var (eR n)])[H2.length]? = some (.var (eR n)) := by rw [get_off0]; rfl
  obtain ⟨a, d2, cd, ps, k2, s2, m2, p2, hP, ht2, hno, hk2⟩ := aftTok h3 hi
  simp only [go_sem, Nat.reduceEqDiff, reduceIte, ↓reduceIte, Nat.reduceAdd, Z0, Z1, Z2, Z3, Z4, Z5, Nat.reduceLT, Z6, Z7, Int.reduceEq, Z8, Z9, Nat.reduceLeDiff, Za, Zb, Zc, Zd, Ze, Zf, bytesOf, Zg, Zh, Zi, Zj, Zk, Zl, Int.reduceLT, Int.reduceLE, Zm, Int.reduceToNat, Zn, Zo, Zp, Int.reduceAdd, Zq, Zr, er]
  rw [ee]
  have hax : ∀ A, ((H2 ++ [AO.var (eR n)]) ++ A)[H.length]? = _ := fun A => get_ext ga A
  simp only [go_sem, Nat.reduceEqDiff, reduceIte, ↓reduceIte, Nat.reduceAdd, Z0, Z1, Z2, Z3, Z4, Z5, Nat.reduceLT, Z6, Z7, Int.reduceEq, Z8, Z9, Nat.reduceLeDiff, Za, Zb, Zc, Zd, Ze, Zf, bytesOf, Zg, Zh, Zi, Zj, Zk, Zl, Int.reduceLT, Int.reduceLE, Zm, Int.reduceToNat, Zn, Zo, Zp, Int.reduceAdd, Zq, Zr, ga]
  refine acall_gen (pNext hP ht2) (fun H3 => H3 = H2 ++ [AO.var (eR n)]) rfl (fun H3 hh => ?_)
  rw [← hh] at ga gc gd ge h3 f3 g5 hP
  have hll : H3.length = H2.length + 1 := by rw [hh]; simp
  clear hh hax
  generalize H2.length = b5 at g5 hl2 hll ⊢
  have ga := get_ext ga [.var (tkC k2 s2 m2 p2)]
  have gc := get_ext gc [.var (tkC k2 s2 m2 p2)]
  have gd := get_ext gd [.var (tkC k2 s2 m2 p2)]
  have ge := get_ext ge [.var (tkC k2 s2 m2 p2)]
  have h3 := h3.ext [.var (tkC k2 s2 m2 p2)]
  have f3 := f3.app [.var (tkC k2 s2 m2 p2)]
  have g5 := get_ext g5 [.var (tkC k2 s2 m2 p2)]
  have hP := hP.ext [.var (tkC k2 s2 m2 p2)]
  have ek : [AV.p (.i .i64 k2), .p (.s s2), .p (.i .i64 m2), .p (.i .i64 p2)] = tkC k2 s2 m2 p2 := rfl
  simp only [go_sem, Nat.reduceEqDiff, reduceIte, ↓reduceIte, Nat.reduceAdd, Z0, Z1, Z2, Z3, Z4, Z5, Nat.reduceLT, Z6, Z7, Int.reduceEq, Z8, Z9, Nat.reduceLeDiff, Za, Zb, Zc, Zd, Ze, Zf, bytesOf, Zg, Zh, Zi, Zj, Zk, Zl, Int.reduceLT, Int.reduceLE, Zm, Int.reduceToNat, Zn, Zo, Zp, Int.reduceAdd, Zq, Zr, tkC]
  rw [ek]
  generalize H3 ++ [.var (tkC k2 s2 m2 p2)] = H4 at h3 f3 ga gc gd ge g5 hP ⊢
  rw [eZ] at gc
  rw [er] at g5
  simp only [go_sem, Nat.reduceEqDiff, reduceIte, ↓reduceIte, Nat.reduceAdd, Z0, Z1, Z2, Z3, Z4, Z5, Nat.reduceLT, Z6, Z7, Int.reduceEq, Z8, Z9, Nat.reduceLeDiff, Za, Zb, Zc, Zd, Ze, Zf, bytesOf, Zg, Zh, Zi, Zj, Zk, Zl, Int.reduceLT, Int.reduceLE, Zm, Int.reduceToNat, Zn, Zo, Zp, Int.reduceAdd, Zq, Zr, ge]
  have g7 : ∀ o, (H4.set (H.length + 2) o)[H.length + 2]? = some o := fun o => set_get gc
  have fin : Aft n it vt ip i (H4.set (H.length + 2) (.var (eR n))) ∧ Fr (Q1 ip) (Q1 ip) H (H4.set (H.length + 2) (.var (eR n))) := ⟨h3.put (by omega) (by have := get_lt h.tv; omega) _, f3.setNew (by omega) _⟩
  rw [er] at fin
  intro _
  refine ⟨Nat, [3, 6, 9, 27, 28, 29], fun x st => x ≤ 1 ∧ st = ⟨[(3, .ptr H.length 0), (6, .ptr (H.length + 2) 0), (9, .ptr b5 0), (27, .gs (H.length + 3) 0 0 1), (28, .p (.i .i64 1)), (29, .p (.i .i64 x))], [], H4⟩, fun x => 1 - x, ⟨0, ?_⟩, ?_⟩
  · simp only [go_sem, Nat.reduceEqDiff, reduceIte, ↓reduceIte, Nat.reduceAdd, Z0, Z1, Z2, Z3, Z4, Z5, Nat.reduceLT, Z6, Z7, Int.reduceEq, Z8, Z9, Nat.reduceLeDiff, Za, Zb, Zc, Zd, Ze, Zf, bytesOf, Zg, Zh, Zi, Zj, Zk, Zl, Int.reduceLT, Int.reduceLE, Zm, Int.reduceToNat, Zn, Zo, Zp, Int.reduceAdd, Zq, Zr]
  · rintro x _ ⟨hx, rfl⟩
    have hc : x = 0 ∨ x = 1 := by omega
    rcases hc with rfl | rfl
    rotate_left 1
    · simp only [go_sem, Nat.reduceEqDiff, reduceIte, ↓reduceIte, Nat.reduceAdd, Z0, Z1, Z2, Z3, Z4, Z5, Nat.reduceLT, Z6, Z7, Int.reduceEq, Z8, Z9, Nat.reduceLeDiff, Za, Zb, Zc, Zd, Ze, Zf, bytesOf, Zg, Zh, Zi, Zj, Zk, Zl, Int.reduceLT, Int.reduceLE, Zm, Int.reduceToNat, Zn, Zo, Zp, Int.reduceAdd, Zq, Zr, g5, gc, g7]
      exact ⟨by rw [er], fin⟩
    · simp only [go_sem, Nat.reduceEqDiff, reduceIte, ↓reduceIte, Nat.reduceAdd, Z0, Z1, Z2, Z3, Z4, Z5, Nat.reduceLT, Z6, Z7, Int.reduceEq, Z8, Z9, Nat.reduceLeDiff, Za, Zb, Zc, Zd, Ze, Zf, bytesOf, Zg, Zh, Zi, Zj, Zk, Zl, Int.reduceLT, Int.reduceLE, Zm, Int.reduceToNat, Zn, Zo, Zp, Int.reduceAdd, Zq, Zr, ga, gd]
      refine acall_pure (pTakeF hP ht2 (hno _ (by decide))) ?_
      simp only [go_sem, Nat.reduceEqDiff, reduceIte, ↓reduceIte, Nat.reduceAdd, Z0, Z1, Z2, Z3, Z4, Z5, Nat.reduceLT, Z6, Z7, Int.reduceEq, Z8, Z9, Nat.reduceLeDiff, Za, Zb, Zc, Zd, Ze, Zf, bytesOf, Zg, Zh, Zi, Zj, Zk, Zl, Int.reduceLT, Int.reduceLE, Zm, Int.reduceToNat, Zn, Zo, Zp, Int.reduceAdd, Zq, Zr]
      exact ⟨1, ⟨by decide, rfl⟩, by decide⟩


theorem tkHere {n i : Nat} (hi : i ≤ n) : ∃ k s m p, tk n i = tkC k s m p ∧ ∀ t : List UInt8, t ≠ [40] → Not 0 k s t := by
  by_cases hin : i < n
  · exact ⟨_, _, _, _, tk_open hin, fun t ht => .inr (.inr (Ne.symm ht))⟩
  · have : i = n := by omega
    subst this
    exact ⟨_, _, _, _, tk_num i, fun t ht => .inr (.inl ⟨by decide, by decide⟩)⟩
theorem pExprT {n it vt i : Nat} {q : Int} (hi : i ≤ n) (hq : q ≤ 40) (hb : RdAt3 n it vt i 19 0 q) : RdAt n it vt i 8 q := by
  intro ip d H h
  have hip := get_lt h.pv
  obtain ⟨k, s, m, p, ht, hno⟩ := tkHere hi
  obtain ⟨k', m', p', er⟩ := eR_eq n
  refine call8 (by simp) ?_
  simp only [go_sem, Nat.reduceEqDiff, reduceIte, ↓reduceIte, Nat.reduceAdd, Z0, Z1, Z2, Z3, Z4, Z5, Nat.reduceLT, Z6, Z7, Int.reduceEq, Z8, Z9, Nat.reduceLeDiff, Za, Zb, Zc, Zd, Ze, Zf, bytesOf, Zg, Zh, Zi, Zj, Zk, Zl, Int.reduceLT, Int.reduceLE, Zm, Int.reduceToNat, Zn, Zo, Zp, Int.reduceAdd, Zq, Zr, mc8, mr8, zl3_0]
  refine (pDeeperT (h.ext _) hq).mono ?_
  rintro r H1 ⟨rfl, d', hH⟩
  have h1 : PS n it vt ip H1 i d' 0 0 := by rw [hH]; exact (h.ext _).set _ _ _ _ h.ha
  have f1 : Fr (Q1 ip) (Q1 ip) H H1 := by rw [hH]; exact (Fr.ext _ _ _).trans (frQ _)
  have ga : H1[H.length]? = some (.var [.ptr ip 0]) := by rw [hH]; exact get_set (by rw [get_off0]; rfl) (by omega)
  have gb : H1[H.length + 1]? = some (.var [.p (.i .i64 q)]) := by rw [hH]; exact get_set (by rw [get_off]; rfl) (by omega)
  have gc : H1[H.length + 2]? = some (.var eZ) := by rw [hH]; exact get_set (by rw [get_off]; rfl) (by omega)
  clear hH
  simp only [go_sem, Nat.reduceEqDiff, reduceIte, ↓reduceIte, Nat.reduceAdd, Z0, Z1, Z2, Z3, Z4, Z5, Nat.reduceLT, Z6, Z7, Int.reduceEq, Z8, Z9, Nat.reduceLeDiff, Za, Zb, Zc, Zd, Ze, Zf, bytesOf, Zg, Zh, Zi, Zj, Zk, Zl, Int.reduceLT, Int.reduceLE, Zm, Int.reduceToNat, Zn, Zo, Zp, Int.reduceAdd, Zq, Zr, ga]
  refine acall_pure (pNext h1 ht) ?_
  have ek : [AV.p (.i .i64 k), .p (.s s), .p (.i .i64 m), .p (.i .i64 p)] = tkC k s m p := rfl
  simp only [go_sem, Nat.reduceEqDiff, reduceIte, ↓reduceIte, Nat.reduceAdd, Z0, Z1, Z2, Z3, Z4, Z5, Nat.reduceLT, Z6, Z7, Int.reduceEq, Z8, Z9, Nat.reduceLeDiff, Za, Zb, Zc, Zd, Ze, Zf, bytesOf, Zg, Zh, Zi, Zj, Zk, Zl, Int.reduceLT, Int.reduceLE, Zm, Int.reduceToNat, Zn, Zo, Zp, Int.reduceAdd, Zq, Zr, tkC]
  rw [ek]
  have ga := get_ext ga [.var (tkC k s m p)]
  have gb := get_ext gb [.var (tkC k s m p)]
  have gc := get_ext gc [.var (tkC k s m p)]
  have h1 := h1.ext [.var (tkC k s m p)]
  have f1 := f1.app [.var (tkC k s m p)]
  generalize H1 ++ [.var (tkC k s m p)] = H2 at h1 f1 ga gb gc ⊢
  simp only [go_sem, Nat.reduceEqDiff, reduceIte, ↓reduceIte, Nat.reduceAdd, Z0, Z1, Z2, Z3, Z4, Z5, Nat.reduceLT, Z6, Z7, Int.reduceEq, Z8, Z9, Nat.reduceLeDiff, Za, Zb, Zc, Zd, Ze, Zf, bytesOf, Zg, Zh, Zi, Zj, Zk, Zl, Int.reduceLT, Int.reduceLE, Zm, Int.reduceToNat, Zn, Zo, Zp, Int.reduceAdd, Zq, Zr, ga]
  refine acall_pure (pTakeF h1 ht (hno _ (by decide))) ?_
  simp only [go_sem, Nat.reduceEqDiff, reduceIte, ↓reduceIte, Nat.reduceAdd, Z0, Z1, Z2, Z3, Z4, Z5, Nat.reduceLT, Z6, Z7, Int.reduceEq, Z8, Z9, Nat.reduceLeDiff, Za, Zb, Zc, Zd, Ze, Zf, bytesOf, Zg, Zh, Zi, Zj, Zk, Zl, Int.reduceLT, Int.reduceLE, Zm, Int.reduceToNat, Zn, Zo, Zp, Int.reduceAdd, Zq, Zr, ga]
  refine acall_pure (pTakeF h1 ht (hno _ (by decide))) ?_
  simp only [go_sem, Nat.reduceEqDiff, reduceIte, ↓reduceIte, Nat.reduceAdd, Z0, Z1, Z2, Z3, Z4, Z5, Nat.reduceLT, Z6, Z7, Int.reduceEq, Z8, Z9, Nat.reduceLeDiff, Za, Zb, Zc, Zd, Ze, Zf, bytesOf, Zg, Zh, Zi, Zj, Zk, Zl, Int.reduceLT, Int.reduceLE, Zm, Int.reduceToNat, Zn, Zo, Zp, Int.reduceAdd, Zq, Zr, ga]
  refine acall_pure (pTakeF h1 ht (hno _ (by decide))) ?_
  simp only [go_sem, Nat.reduceEqDiff, reduceIte, ↓reduceIte, Nat.reduceAdd, Z0, Z1, Z2, Z3, Z4, Z5, Nat.reduceLT, Z6, Z7, Int.reduceEq, Z8, Z9, Nat.reduceLeDiff, Za, Zb, Zc, Zd, Ze, Zf, bytesOf, Zg, Zh, Zi, Zj, Zk, Zl, Int.reduceLT, Int.reduceLE, Zm, Int.reduceToNat, Zn, Zo, Zp, Int.reduceAdd, Zq, Zr, ga]
  refine acall_pure (pTakeF h1 ht (hno _ (by decide))) ?_
  simp only [go_sem, Nat.reduceEqDiff, reduceIte, ↓reduceIte, Nat.reduceAdd, Z0, Z1, Z2, Z3, Z4, Z5, Nat.reduceLT, Z6, Z7, Int.reduceEq, Z8, Z9, Nat.reduceLeDiff, Za, Zb, Zc, Zd, Ze, Zf, bytesOf, Zg, Zh, Zi, Zj, Zk, Zl, Int.reduceLT, Int.reduceLE, Zm, Int.reduceToNat, Zn, Zo, Zp, Int.reduceAdd, Zq, Zr, ga, gb]
  refine (hb ip d' H2 h1).mono ?_
  rintro r H3 ⟨rfl, h3, f3⟩
  have gc := f3.keep _ _ gc (by intro e; omega)
  rw [eZ] at gc
  have g7 : ∀ o, (H3.set (H.length + 2) o)[H.length + 2]? = some o := fun o => set_get gc
  simp only [go_sem, Nat.reduceEqDiff, reduceIte, ↓reduceIte, Nat.reduceAdd, Z0, Z1, Z2, Z3, Z4, Z5, Nat.reduceLT, Z6, Z7, Int.reduceEq, Z8, Z9, Nat.reduceLeDiff, Za, Zb, Zc, Zd, Ze, Zf, bytesOf, Zg, Zh, Zi, Zj, Zk, Zl, Int.reduceLT, Int.reduceLE, Zm, Int.reduceToNat, Zn, Zo, Zp, Int.reduceAdd, Zq, Zr, er, gc, g7]
  exact ⟨h3.put (by omega) (by have := get_lt h.tv; omega) _, (f1.trans f3).setNew (by omega) _⟩

theorem tkAt40 {n : Nat} (hn : 40 ≤ n) : ∃ k s m, tk n 40 = tkC k s m 40 := by
  by_cases h : 40 < n
  · exact ⟨_, _, _, tk_open h⟩
  · have : n = 40 := by omega
    subst this
    exact ⟨_, _, _, tk_num 40⟩
theorem pExprF {n it vt : Nat} (hn : 40 ≤ n) : RdAt n it vt 40 8 41 := by
  intro ip d H h
  have hip := get_lt h.pv
  obtain ⟨k, s, m, ht⟩ := tkAt40 hn
  have er : eR n = eZ := by unfold eR; rw [if_neg (by omega)]
  refine call8 (by simp) ?_
  simp only [go_sem, Nat.reduceEqDiff, reduceIte, ↓reduceIte, Nat.reduceAdd, Z0, Z1, Z2, Z3, Z4, Z5, Nat.reduceLT, Z6, Z7, Int.reduceEq, Z8, Z9, Nat.reduceLeDiff, Za, Zb, Zc, Zd, Ze, Zf, bytesOf, Zg, Zh, Zi, Zj, Zk, Zl, Int.reduceLT, Int.reduceLE, Zm, Int.reduceToNat, Zn, Zo, Zp, Int.reduceAdd, Zq, Zr, mc8, mr8, zl3_0]
  refine acall_gen (pDeeperF (h.ext _) ht (by decide)) (fun H1 => PS n it vt ip H1 40 d 12 40 ∧ Fr (Q1 ip) (Q1 ip) H H1 ∧ H1[H.length + 2]? = some (.var eZ)) ⟨(h.ext _).set _ _ _ _ h.ha, (Fr.ext _ _ _).trans (frQ _), get_set (by rw [get_off]; rfl) (by omega)⟩ (fun H1 hh => ?_)
  obtain ⟨h1, f1, gc⟩ := hh
  rw [eZ] at gc
  have g7 : ∀ o, (H1.set (H.length + 2) o)[H.length + 2]? = some o := fun o => set_get gc
  simp only [go_sem, Nat.reduceEqDiff, reduceIte, ↓reduceIte, Nat.reduceAdd, Z0, Z1, Z2, Z3, Z4, Z5, Nat.reduceLT, Z6, Z7, Int.reduceEq, Z8, Z9, Nat.reduceLeDiff, Za, Zb, Zc, Zd, Ze, Zf, bytesOf, Zg, Zh, Zi, Zj, Zk, Zl, Int.reduceLT, Int.reduceLE, Zm, Int.reduceToNat, Zn, Zo, Zp, Int.reduceAdd, Zq, Zr, gc, g7]
  have h3 : Aft n it vt ip 40 H1 := ⟨40, d, 12, 40, h1, .inr ⟨by omega, rfl, rfl⟩⟩
  refine ⟨by rw [er]; rfl, h3.put (by omega) (by have := get_lt h.tv; omega) _, f1.setNew (by omega) _⟩

/-- an expression, from each place on -/
theorem pExpr {n it vt : Nat} (hn : n ≤ 79) : ∀ (j i : Nat), i + j = (if n ≤ 39 then n else 40) → RdAt n it vt i 8 ((i : Int) + 1) := by
  intro j
  induction j with
  | zero =>
    intro i hi
    by_cases h : n ≤ 39
    · rw [if_pos h] at hi
      have : i = n := by omega
      subst this
      refine pExprT (Nat.le_refl _) (by omega) (pOnceZero (Nat.le_refl _) (pOnce2 (pOnceOne (Nat.le_refl _) (pOnce1 (pRowZero (Nat.le_refl _) (pRow2 (pRowOne (Nat.le_refl _) ?_)))))))
      intro ip d H hp a b ha hb
      exact pRow1 (pApp (Nat.le_refl _) (pPre (Nat.le_refl _) (fun ip d H hp => pNum hp h _))) hp ha hb
    · rw [if_neg h] at hi
      have : i = 40 := by omega
      subst this
      exact pExprF (by omega)
  | succ j ih =>
    intro i hi
    have hin : i < n := by split at hi <;> omega
    have hi40 : i < 40 := by split at hi <;> omega
    have hle : i ≤ n := by omega
    refine pExprT hle (by omega) (pOnceZero hle (pOnce2 (pOnceOne hle (pOnce1 (pRowZero hle (pRow2 (pRowOne hle ?_)))))))
    intro ip d H hp a b ha hb
    refine pRow1 (pApp hle (pPre hle (pAtom hin (pBrackets (by omega) (by omega) hin ?_)))) hp ha hb
    have := ih (i + 1) (by omega)
    simpa using this
end Go.Proofs.YtpaaiigpnbiglaaDoor.Dm

/- strconv.Atoi: the kit's contract, at this program. -/
set_option linter.all false
namespace Go.Proofs.YtpaaiigpnbiglaaDoor.Dm
open Go.AM Go.Shelf Mc

def rhoAtoi : Ren := ⟨fun x => match x with | 172 => 42 | 244 => 52 | 245 => 53 | 247 => 56 | 279 => 57 | 280 => 58 | 281 => 59 | 282 => 60 | 287 => 61 | 316 => 62 | 171 => 64 | 205 => 63 | 321 => 65 | 322 => 66 | 243 => 67 | 246 => 68 | 283 => 69 | 284 => 70 | 285 => 71 | 286 => 72 | 129 => 74 | 317 => 73 | 318 => 75 | 319 => 76 | 320 => 77 | 337 => 78 | 338 => 79 | n => n,
  fun x => match x with | 75 => 69 | 76 => 70 | 167 => 77 | 37 => 22 | 85 => 78 | 168 => 80 | 53 => 83 | 175 => 84 | 46 => 86 | 210 => 89 | 127 => 92 | 145 => 95 | 143 => 93 | 171 => 97 | 173 => 100 | 212 => 104 | 51 => 105 | 213 => 106 | 232 => 109 | 233 => 110 | 80 => 111 | n => n,
  fun x => match x with | 15 => 0 | 16 => 1 | 17 => 2 | 18 => 3 | 19 => 4 | n => n⟩
theorem laysAtoi : Lays.n172 Tryd.prog rhoAtoi where
  mixed := by kernel_rfl
  f129 := Eq.trans Tryd.func74 (by kernel_rfl)
  f171 := Eq.trans Tryd.func64 (by kernel_rfl)
  f172 := Eq.trans Tryd.func42 (by kernel_rfl)
  f205 := Eq.trans Tryd.func63 (by kernel_rfl)
  f243 := Eq.trans Tryd.func67 (by kernel_rfl)
  f244 := Eq.trans Tryd.func52 (by kernel_rfl)
  f245 := Eq.trans Tryd.func53 (by kernel_rfl)
  f246 := Eq.trans Tryd.func68 (by kernel_rfl)
  f247 := Eq.trans Tryd.func56 (by kernel_rfl)
  f279 := Eq.trans Tryd.func57 (by kernel_rfl)
  f280 := Eq.trans Tryd.func58 (by kernel_rfl)
  f281 := Eq.trans Tryd.func59 (by kernel_rfl)
  f282 := Eq.trans Tryd.func60 (by kernel_rfl)
  f283 := Eq.trans Tryd.func69 (by kernel_rfl)
  f284 := Eq.trans Tryd.func70 (by kernel_rfl)
  f285 := Eq.trans Tryd.func71 (by kernel_rfl)
  f286 := Eq.trans Tryd.func72 (by kernel_rfl)
  f287 := Eq.trans Tryd.func61 (by kernel_rfl)
  f316 := Eq.trans Tryd.func62 (by kernel_rfl)
  f317 := Eq.trans Tryd.func73 (by kernel_rfl)
  f318 := Eq.trans Tryd.func75 (by kernel_rfl)
  f319 := Eq.trans Tryd.func76 (by kernel_rfl)
  f320 := Eq.trans Tryd.func77 (by kernel_rfl)
  f321 := Eq.trans Tryd.func65 (by kernel_rfl)
  f322 := Eq.trans Tryd.func66 (by kernel_rfl)
  f337 := Eq.trans Tryd.func78 (by kernel_rfl)
  f338 := Eq.trans Tryd.func79 (by kernel_rfl)
  t0 := Tryd.underlying0
  a0 := Tryd.isAgg0
  z0 := Tryd.sizeOf0
  v0 := Tryd.zeroValue0
  t2 := Tryd.underlying2
  a2 := Tryd.isAgg2
  z2 := Tryd.sizeOf2
  v2 := Tryd.zeroValue2
  t3 := Tryd.underlying3
  a3 := Tryd.isAgg3
  z3 := Tryd.sizeOf3
  v3 := Tryd.zeroValue3
  t4 := Tryd.underlying4
  a4 := Tryd.isAgg4
  z4 := Tryd.sizeOf4
  v4 := Tryd.zeroValue4
  t5 := Tryd.underlying5
  a5 := Tryd.isAgg5
  z5 := Tryd.sizeOf5
  v5 := Tryd.zeroValue5
  t9 := Tryd.underlying9
  a9 := Tryd.isAgg9
  z9 := Tryd.sizeOf9
  v9 := Tryd.zeroValue9
  t20 := Tryd.underlying20
  a20 := Tryd.isAgg20
  z20 := Tryd.sizeOf20
  v20 := Tryd.zeroValue20
  t21 := Tryd.underlying21
  a21 := Tryd.isAgg21
  z21 := Tryd.sizeOf21
  v21 := Tryd.zeroValue21
  t37 := Tryd.underlying22
  a37 := Tryd.isAgg22
  z37 := Tryd.sizeOf22
  v37 := Tryd.zeroValue22
  t46 := Tryd.underlying86
  a46 := Tryd.isAgg86
  z46 := Tryd.sizeOf86
  v46 := Tryd.zeroValue86
  t51 := Tryd.underlying105
  a51 := Tryd.isAgg105
  z51 := Tryd.sizeOf105
  v51 := Tryd.zeroValue105
  t53 := Tryd.underlying83
  a53 := Tryd.isAgg83
  z53 := Tryd.sizeOf83
  v53 := Tryd.zeroValue83
  t75 := Tryd.underlying69
  a75 := Tryd.isAgg69
  z75 := Tryd.sizeOf69
  v75 := Tryd.zeroValue69
  t76 := Tryd.underlying70
  a76 := Tryd.isAgg70
  z76 := Tryd.sizeOf70
  v76 := Tryd.zeroValue70
  t85 := Tryd.underlying78
  a85 := Tryd.isAgg78
  z85 := Tryd.sizeOf78
  v85 := Tryd.zeroValue78
  t127 := Tryd.underlying92
  a127 := Tryd.isAgg92
  z127 := Tryd.sizeOf92
  v127 := Tryd.zeroValue92
  t143 := Tryd.underlying93
  a143 := Tryd.isAgg93
  z143 := Tryd.sizeOf93
  v143 := Tryd.zeroValue93
  t145 := Tryd.underlying95
  a145 := Tryd.isAgg95
  z145 := Tryd.sizeOf95
  v145 := Tryd.zeroValue95
  t167 := Tryd.underlying77
  a167 := Tryd.isAgg77
  z167 := Tryd.sizeOf77
  v167 := Tryd.zeroValue77
  t168 := Tryd.underlying80
  a168 := Tryd.isAgg80
  z168 := Tryd.sizeOf80
  v168 := Tryd.zeroValue80
  t171 := Tryd.underlying97
  a171 := Tryd.isAgg97
  z171 := Tryd.sizeOf97
  v171 := Tryd.zeroValue97
  t173 := Tryd.underlying100
  a173 := Tryd.isAgg100
  z173 := Tryd.sizeOf100
  v173 := Tryd.zeroValue100
  t175 := Tryd.underlying84
  a175 := Tryd.isAgg84
  z175 := Tryd.sizeOf84
  v175 := Tryd.zeroValue84
  t210 := Tryd.underlying89
  a210 := Tryd.isAgg89
  z210 := Tryd.sizeOf89
  v210 := Tryd.zeroValue89
  t212 := Tryd.underlying104
  a212 := Tryd.isAgg104
  z212 := Tryd.sizeOf104
  v212 := Tryd.zeroValue104
  t213 := Tryd.underlying106
  a213 := Tryd.isAgg106
  z213 := Tryd.sizeOf106
  t232 := Tryd.underlying109
  a232 := Tryd.isAgg109
  z232 := Tryd.sizeOf109
  v232 := Tryd.zeroValue109
  t233 := Tryd.underlying110
  a233 := Tryd.isAgg110
  z233 := Tryd.sizeOf110
  v233 := Tryd.zeroValue110
  g15 := by kernel_rfl
  g16 := by kernel_rfl
  g17 := by kernel_rfl
  g18 := by kernel_rfl
  g19 := by kernel_rfl

/-- the world with more blocks behind -/
theorem sr_more {θ : Th} {W : Im} {H : List AO} {w w' : World} (h : SR θ W H w) (h1 : w'.os = w.os) (h2 : w'.tape = w.tape) (h3 : w'.output = w.output) (h4 : w.heap.size ≤ w'.heap.size) (h5 : ∀ k, k < w.heap.size → w'.heap[k]? = w.heap[k]?) : SR θ W H w' ∧ Stp θ W w θ W w' := by
  refine ⟨⟨?_, ?_, h.out, h.own, h.inj⟩, ⟨h1, h2, h3, h4, fun k hk _ => h5 k hk, fun _ _ _ h => h, fun _ _ _ _ => rfl, fun _ _ _ => .inl rfl, fun _ h => .inl h⟩⟩
  · intro b o v hv
    rw [← h.imm b o v hv]
    exact World.cell?_of_block (h5 b (h.lt hv))
  · intro i o hi
    exact (h.obj i o hi).mono (fun _ => rfl) (fun v k s t hk => h5 k (h.ownedLt hk)) (fun _ _ h => h)

/-- a call whose world behind is the one ahead with more blocks -/
theorem acall_more {P : Program} {f : Nat} {args : List AV} {H : List AO} {r : AV} (hb : HasBody P f)
    (hc : ∀ w θ W (vs : Array Value), SR θ W H w → Rels θ W args vs → Calls P f vs w fun e w' => ∃ rv, e = .returned rv ∧ ARel θ W r rv ∧ w'.os = w.os ∧ w'.tape = w.tape ∧ w'.output = w.output ∧ w.heap.size ≤ w'.heap.size ∧ ∀ k, k < w.heap.size → w'.heap[k]? = w.heap[k]?) :
    ACall P f args H (pureQ r H) := by
  refine ⟨hb, fun w θ W vs hSR hrel => ?_⟩
  refine (hc w θ W vs hSR hrel).mono ?_
  rintro e w' ⟨rv, rfl, hr, h1, h2, h3, h4, h5⟩
  obtain ⟨k1, k2⟩ := sr_more hSR h1 h2 h3 h4 h5
  exact ⟨rv, r, H, θ, W, rfl, ⟨rfl, rfl⟩, k1, hr, k2⟩

theorem atoi {s : List UInt8} {n : Int} {H : List AO} (hl : s.length ≤ 18) (h : Lib.atoi s = some n) : ACall Tryd.prog 42 [.p (.s s)] H (pureQ (.tup [.p (.i .i64 n), .p .ni]) H) := by
  refine acall_more ⟨_, Tryd.func42, rfl, rfl⟩ ?_
  rintro w θ W vs hSR ⟨hr1, hr2⟩
  have hv : vs = #[.string ⟨s.toArray⟩] := by
    have hs : vs.toList.length = 1 := by simpa using hr1
    match hl : vs.toList, hs with
    | [a], _ =>
      have := hr2 0 _ a rfl (by rw [← Array.getElem?_toList, hl]; rfl)
      obtain ⟨rfl, _⟩ := this.s_inv
      rw [← Array.toList_inj]; exact hl
  subst hv
  refine (Any.strconv_Atoi laysAtoi ⟨s.toArray⟩ n (by simpa [ByteArray.size] using hl) (by simpa using h) w).mono ?_
  rintro e w' ⟨rfl, t, rfl⟩
  refine ⟨_, rfl, ?_, rfl, rfl, rfl, by rw [Lib.bytesWorld_size]; omega, fun k hk => Lib.bytesWorld_at_old _ _ _ _ hk⟩
  refine .tup _ _ (by rfl) ?_
  intro j c v hj hv
  match j with
  | 0 => cases hj; cases hv; exact .p _ _ (.i _ _)
  | 1 => cases hj; cases hv; exact .p _ _ .ni
  | j + 2 => simp at hj
end Go.Proofs.YtpaaiigpnbiglaaDoor.Dm
