/- Texts McF GiC GiD PiC PiD PiE PiF GiE GiF GiG, merged. -/
import Derived.Test.YtmbggdfceecojaaKgB
import Derived.Test.YtmbggdfceecojaaChecked
import Derived.KernelRfl
/- THE SMALL CODES of functions 7 36 37 38 85 86 87 88 89 90 91 92 138 139 140 141 142, and their ties to the program (printed by wip/tools/mkties.sh). -/
set_option linter.all false
namespace Go.Proofs.Ytmbggdfceecojaa.Mc
open Go.AM
def lv7 : List Nat := [0, 2, 3, 4, 5, 6, 7, 8, 9, 10, 11, 12, 15, 37, 42, 58, 66, 69, 84, 89, 92]
def mc7 : MC :=
.seq (.reg [
    ⟨.l 2, .mv (.c (.p (.b false))), none⟩]) (
  .seq (.seq (.reg [
    ⟨.t 13, .mv (.l 0), none⟩,
    ⟨.t 14, .len false (.t 13), none⟩,
    ⟨.l 15, .bin .gtr (.t 14) (.c (.p (.i .i64 1048576))), none⟩]) (
  .cond (.l 15) (
    .seq (.reg [
      ⟨.l 2, .mv (.c (.p (.b true))), none⟩]) (
    .ret)) (
    .skip))) (
  .seq (.reg [
    ⟨.t 17, .mv (.l 0), none⟩,
    ⟨.t 18, .call 37 [.t 17], none⟩,
    ⟨.t 19, .call 36 [.t 18], none⟩,
    ⟨.t 16, .mv (.t 19), none⟩,
    ⟨.t 20, .ext (.t 16) 0, none⟩,
    ⟨.t 21, .ext (.t 16) 1, none⟩,
    ⟨.l 3, .alloc [.p (.nl), .p (.nl)], none⟩,
    ⟨.no, .sto 2 (.l 3) (.t 20), none⟩,
    ⟨.l 4, .mv (.t 21), none⟩]) (
  .seq (.reg [
    ⟨.t 22, .mv (.l 0), none⟩,
    ⟨.t 23, .call 37 [.t 22], none⟩,
    ⟨.l 5, .mv (.t 23), none⟩]) (
  .seq (.reg [
    ⟨.t 25, .mv (.l 5), none⟩,
    ⟨.t 26, .call 38 [.t 25], none⟩,
    ⟨.t 24, .mv (.t 26), none⟩,
    ⟨.t 27, .ext (.t 24) 0, none⟩,
    ⟨.t 28, .ext (.t 24) 1, none⟩,
    ⟨.l 6, .alloc [.p (.nl), .p (.nl)], none⟩,
    ⟨.no, .sto 2 (.l 6) (.t 27), none⟩,
    ⟨.l 7, .mv (.t 28), none⟩]) (
  .seq (.seq (.reg [
    ⟨.t 29, .ld true 2 (.l 6), none⟩,
    ⟨.t 30, .ld true 2 (.l 3), none⟩,
    ⟨.t 31, .call 24 [.t 29, .t 30], none⟩,
    ⟨.t 32, .un .not (.t 31), none⟩,
    ⟨.t 33, .mv (.t 32), none⟩,
    ⟨.t 34, .mv (.l 7), some ((.t 33), false)⟩,
    ⟨.t 35, .mv (.l 4), some ((.t 33), false)⟩,
    ⟨.t 36, .bin .neq (.t 34) (.t 35), some ((.t 33), false)⟩,
    ⟨.l 37, .pick (.t 33) (.c (.p (.b true))) (.t 36), none⟩]) (
  .cond (.l 37) (
    .seq (.reg [
      ⟨.l 2, .mv (.c (.p (.b false))), none⟩]) (
    .ret)) (
    .skip))) (
  .seq (.seq (.reg [
    ⟨.t 38, .mv (.l 5), none⟩,
    ⟨.t 39, .mv (.l 0), none⟩,
    ⟨.t 40, .call 37 [.t 39], none⟩,
    ⟨.t 41, .call 23 [.t 38, .t 40], none⟩,
    ⟨.l 42, .un .not (.t 41), none⟩]) (
  .cond (.l 42) (
    .seq (.reg [
      ⟨.l 2, .mv (.c (.p (.b false))), none⟩]) (
    .ret)) (
    .skip))) (
  .seq (.reg [
    ⟨.l 8, .mv (.c (.p (.i .i64 1))), none⟩]) (
  .seq (.reg [
    ⟨.t 43, .mv (.l 5), none⟩,
    ⟨.t 44, .mv (.l 8), none⟩,
    ⟨.t 45, .call 26 [.t 43, .t 44], none⟩,
    ⟨.l 8, .mv (.t 45), none⟩]) (
  .seq (.seq (.reg [
    ⟨.t 46, .mv (.l 8), none⟩,
    ⟨.t 47, .bin .lss (.t 46) (.c (.p (.i .i64 0))), none⟩,
    ⟨.t 48, .mv (.t 47), none⟩,
    ⟨.t 49, .ld true 2 (.l 6), some ((.t 48), false)⟩,
    ⟨.t 50, .ld true 2 (.l 3), some ((.t 48), false)⟩,
    ⟨.t 51, .call 24 [.t 49, .t 50], some ((.t 48), false)⟩,
    ⟨.t 52, .un .not (.t 51), some ((.t 48), false)⟩,
    ⟨.t 53, .pick (.t 48) (.c (.p (.b true))) (.t 52), none⟩,
    ⟨.t 54, .mv (.t 53), none⟩,
    ⟨.t 55, .mv (.l 7), some ((.t 54), false)⟩,
    ⟨.t 56, .mv (.l 4), some ((.t 54), false)⟩,
    ⟨.t 57, .bin .neq (.t 55) (.t 56), some ((.t 54), false)⟩,
    ⟨.l 58, .pick (.t 54) (.c (.p (.b true))) (.t 57), none⟩]) (
  .cond (.l 58) (
    .seq (.reg [
      ⟨.l 2, .mv (.c (.p (.b false))), none⟩]) (
    .ret)) (
    .skip))) (
  .seq (.reg [
    ⟨.l 9, .mv (.c (.p (.i .i64 1))), none⟩]) (
  .seq (.reg [
    ⟨.t 59, .ld true 2 (.l 6), none⟩,
    ⟨.t 60, .mv (.l 9), none⟩,
    ⟨.t 61, .call 25 [.t 59, .t 60], none⟩,
    ⟨.l 9, .mv (.t 61), none⟩]) (
  .seq (.reg [
    ⟨.l 10, .mv (.c (.p (.i .i64 1))), none⟩]) (
  .seq (.reg [
    ⟨.t 62, .ld true 2 (.l 6), none⟩,
    ⟨.t 63, .mv (.l 10), none⟩,
    ⟨.t 64, .call 35 [.t 62, .t 63], none⟩,
    ⟨.l 10, .mv (.t 64), none⟩]) (
  .seq (.seq (.reg [
    ⟨.t 65, .mv (.l 10), none⟩,
    ⟨.l 66, .bin .lss (.t 65) (.c (.p (.i .i64 0))), none⟩]) (
  .cond (.l 66) (
    .seq (.reg [
      ⟨.l 2, .mv (.c (.p (.b false))), none⟩]) (
    .ret)) (
    .skip))) (
  .seq (.seq (.reg [
    ⟨.t 67, .mv (.l 10), none⟩,
    ⟨.t 68, .mv (.l 9), none⟩,
    ⟨.l 69, .bin .neq (.t 67) (.t 68), none⟩]) (
  .cond (.l 69) (
    .seq (.reg [
      ⟨.l 2, .mv (.c (.p (.b false))), none⟩]) (
    .ret)) (
    .skip))) (
  .seq (.reg [
    ⟨.t 71, .mv (.l 0), none⟩,
    ⟨.t 72, .call 37 [.t 71], none⟩,
    ⟨.t 73, .call 38 [.t 72], none⟩,
    ⟨.t 70, .mv (.t 73), none⟩,
    ⟨.t 74, .ext (.t 70) 0, none⟩,
    ⟨.t 75, .ext (.t 70) 1, none⟩,
    ⟨.l 11, .alloc [.p (.nl), .p (.nl)], none⟩,
    ⟨.no, .sto 2 (.l 11) (.t 74), none⟩,
    ⟨.l 12, .mv (.t 75), none⟩]) (
  .seq (.seq (.reg [
    ⟨.t 76, .ld true 2 (.l 11), none⟩,
    ⟨.t 77, .ld true 2 (.l 3), none⟩,
    ⟨.t 78, .call 24 [.t 76, .t 77], none⟩,
    ⟨.t 79, .un .not (.t 78), none⟩,
    ⟨.t 80, .mv (.t 79), none⟩,
    ⟨.t 81, .mv (.l 12), some ((.t 80), false)⟩,
    ⟨.t 82, .mv (.l 4), some ((.t 80), false)⟩,
    ⟨.t 83, .bin .neq (.t 81) (.t 82), some ((.t 80), false)⟩,
    ⟨.l 84, .pick (.t 80) (.c (.p (.b true))) (.t 83), none⟩]) (
  .cond (.l 84) (
    .seq (.reg [
      ⟨.l 2, .mv (.c (.p (.b false))), none⟩]) (
    .ret)) (
    .skip))) (
  .seq (.reg [
    ⟨.l 10, .mv (.c (.p (.i .i64 1))), none⟩]) (
  .seq (.reg [
    ⟨.t 85, .ld true 2 (.l 6), none⟩,
    ⟨.t 86, .mv (.l 10), none⟩,
    ⟨.t 87, .call 35 [.t 85, .t 86], none⟩,
    ⟨.l 10, .mv (.t 87), none⟩]) (
  .seq (.seq (.reg [
    ⟨.t 88, .mv (.l 10), none⟩,
    ⟨.l 89, .bin .lss (.t 88) (.c (.p (.i .i64 0))), none⟩]) (
  .cond (.l 89) (
    .seq (.reg [
      ⟨.l 2, .mv (.c (.p (.b false))), none⟩]) (
    .ret)) (
    .skip))) (
  .seq (.seq (.reg [
    ⟨.t 90, .mv (.l 10), none⟩,
    ⟨.t 91, .mv (.l 9), none⟩,
    ⟨.l 92, .bin .neq (.t 90) (.t 91), none⟩]) (
  .cond (.l 92) (
    .seq (.reg [
      ⟨.l 2, .mv (.c (.p (.b false))), none⟩]) (
    .ret)) (
    .skip))) (
  .seq (.reg [
    ⟨.l 2, .mv (.c (.p (.b true))), none⟩]) (
  .ret)))))))))))))))))))))))
theorem mc7_eq : (Try.f7.body.map (compile lv7 Try.prog 93)) = some mc7 := by kernel_rfl
def mr7 : List MR := [.t 2]
theorem mr7_eq : cRess lv7 Try.prog Try.f7.results.toList = some mr7 := by kernel_rfl
theorem call7 {args : List AV} {H : List AO} {Q : AV → List AO → Prop} (hla : args.length ≤ 93) (h : wpm (ACall Try.prog) mc7 (finK mr7 Q) ⟨argEnv 0 args, [], H⟩) : ACall Try.prog 7 args H Q :=
  acall_mc (by kernel_rfl) Try.func7 mc7_eq Try.ntmps7 (by kernel_rfl) mr7_eq hla h
def lv36 : List Nat := [0, 2, 3, 4, 5, 6, 7, 8, 9, 10, 11, 15, 37, 56, 75, 92, 103, 107, 111, 128]
def mc36 : MC :=
.seq (.reg [
    ⟨.l 2, .alloc [.p (.nl), .p (.nl)], none⟩,
    ⟨.l 3, .mv (.c (.p (.i .i64 0))), none⟩]) (
  .seq (.reg [
    ⟨.t 12, .build [.p (.nl), .p (.nl)] [], none⟩,
    ⟨.l 4, .alloc [.p (.nl), .p (.nl)], none⟩,
    ⟨.no, .sto 2 (.l 4) (.t 12), none⟩]) (
  .seq (.seq (.reg [
    ⟨.t 13, .mv (.l 0), none⟩,
    ⟨.t 14, .len false (.t 13), none⟩,
    ⟨.l 15, .bin .gtr (.t 14) (.c (.p (.i .i64 200000))), none⟩]) (
  .cond (.l 15) (
    .seq (.reg [
      ⟨.t 16, .ld true 2 (.l 4), none⟩,
      ⟨.no, .sto 2 (.l 2) (.t 16), none⟩,
      ⟨.l 3, .mv (.c (.p (.i .i64 6))), none⟩]) (
    .ret)) (
    .skip))) (
  .seq (.seq (.reg [
    ⟨.t 17, .mv (.l 0), none⟩,
    ⟨.t 18, .len false (.t 17), none⟩,
    ⟨.t 19, .bin .lss (.t 18) (.c (.p (.i .i64 3))), none⟩,
    ⟨.t 20, .mv (.t 19), none⟩,
    ⟨.t 21, .mv (.l 0), some ((.t 20), false)⟩,
    ⟨.t 22, .ixs 1 (.t 21) (.c (.p (.i .i64 0))), some ((.t 20), false)⟩,
    ⟨.t 23, .ld false 1 (.t 22), some ((.t 20), false)⟩,
    ⟨.t 24, .bin .neq (.t 23) (.c (.p (.i .u8 77))), some ((.t 20), false)⟩,
    ⟨.t 25, .pick (.t 20) (.c (.p (.b true))) (.t 24), none⟩,
    ⟨.t 26, .mv (.t 25), none⟩,
    ⟨.t 27, .mv (.l 0), some ((.t 26), false)⟩,
    ⟨.t 28, .ixs 1 (.t 27) (.c (.p (.i .i64 1))), some ((.t 26), false)⟩,
    ⟨.t 29, .ld false 1 (.t 28), some ((.t 26), false)⟩,
    ⟨.t 30, .bin .neq (.t 29) (.c (.p (.i .u8 78))), some ((.t 26), false)⟩,
    ⟨.t 31, .pick (.t 26) (.c (.p (.b true))) (.t 30), none⟩,
    ⟨.t 32, .mv (.t 31), none⟩,
    ⟨.t 33, .mv (.l 0), some ((.t 32), false)⟩,
    ⟨.t 34, .ixs 1 (.t 33) (.c (.p (.i .i64 2))), some ((.t 32), false)⟩,
    ⟨.t 35, .ld false 1 (.t 34), some ((.t 32), false)⟩,
    ⟨.t 36, .bin .neq (.t 35) (.c (.p (.i .u8 1))), some ((.t 32), false)⟩,
    ⟨.l 37, .pick (.t 32) (.c (.p (.b true))) (.t 36), none⟩]) (
  .cond (.l 37) (
    .seq (.reg [
      ⟨.t 38, .ld true 2 (.l 4), none⟩,
      ⟨.no, .sto 2 (.l 2) (.t 38), none⟩,
      ⟨.l 3, .mv (.c (.p (.i .i64 1))), none⟩]) (
    .ret)) (
    .skip))) (
  .seq (.reg [
    ⟨.t 39, .mv (.l 0), none⟩,
    ⟨.t 40, .build [.p (.nl), .p (.i .i64 0), .p (.i .i64 0)] [(0, 1, (.t 39)), (1, 1, (.c (.p (.i .i64 3))))], none⟩,
    ⟨.t 41, .box 3 (.t 40), none⟩,
    ⟨.l 5, .mv (.t 41), none⟩]) (
  .seq (.reg [
    ⟨.t 42, .mv (.l 5), none⟩,
    ⟨.t 43, .call 85 [.t 42], none⟩,
    ⟨.l 6, .mv (.t 43), none⟩]) (
  .seq (.reg [
    ⟨.t 44, .mv (.l 5), none⟩,
    ⟨.t 45, .call 85 [.t 44], none⟩,
    ⟨.l 7, .mv (.t 45), none⟩]) (
  .seq (.reg [
    ⟨.t 46, .build [.p (.nl), .p (.nl)] [], none⟩,
    ⟨.l 8, .alloc [.p (.nl), .p (.nl)], none⟩,
    ⟨.no, .sto 2 (.l 8) (.t 46), none⟩]) (
  .seq (.seq (.reg [
    ⟨.l 9, .mv (.c (.p (.i .i64 0))), none⟩]) (
  .blk 0 (
    .loop (
      .seq (.seq (.reg [
        ⟨.t 47, .mv (.l 9), none⟩,
        ⟨.t 48, .mv (.l 6), none⟩,
        ⟨.t 49, .bin .lss (.t 47) (.t 48), none⟩,
        ⟨.t 50, .mv (.t 49), none⟩,
        ⟨.t 51, .mv (.l 5), some ((.t 50), true)⟩,
        ⟨.t 52, .nilc (.t 51), some ((.t 50), true)⟩,
        ⟨.t 53, .fad 2 (.t 52), some ((.t 50), true)⟩,
        ⟨.t 54, .ld false 1 (.t 53), some ((.t 50), true)⟩,
        ⟨.t 55, .bin .eql (.t 54) (.c (.p (.i .i64 0))), some ((.t 50), true)⟩,
        ⟨.l 56, .pick (.t 50) (.t 55) (.c (.p (.b false))), none⟩]) (
      .cond (.l 56) (
        .skip) (
        .exit 0))) (
      .seq (.blk 1 (
        .drw [
          ⟨.t 59, .fad 1 (.l 8), none⟩,
          ⟨.t 60, .ld false 1 (.t 59), none⟩,
          ⟨.t 61, .mv (.l 5), none⟩,
          ⟨.t 62, .call 86 [.t 61], none⟩,
          ⟨.t 63, .bsl 1 [.p (.i .i64 0)] 1 [(0, (.t 62))], none⟩] [
          ⟨.t 64, .app 1 8 (.t 60) (.t 63), none⟩,
          ⟨.t 65, .fad 1 (.l 8), none⟩,
          ⟨.no, .sto 1 (.t 65) (.t 64), none⟩])) (
      .reg [
        ⟨.t 57, .mv (.l 9), none⟩,
        ⟨.t 58, .bin .add (.t 57) (.c (.p (.i .i64 1))), none⟩,
        ⟨.l 9, .mv (.t 58), none⟩])))))) (
  .seq (.seq (.reg [
    ⟨.l 10, .mv (.c (.p (.i .i64 0))), none⟩]) (
  .blk 2 (
    .loop (
      .seq (.seq (.reg [
        ⟨.t 66, .mv (.l 10), none⟩,
        ⟨.t 67, .mv (.l 7), none⟩,
        ⟨.t 68, .bin .lss (.t 66) (.t 67), none⟩,
        ⟨.t 69, .mv (.t 68), none⟩,
        ⟨.t 70, .mv (.l 5), some ((.t 69), true)⟩,
        ⟨.t 71, .nilc (.t 70), some ((.t 69), true)⟩,
        ⟨.t 72, .fad 2 (.t 71), some ((.t 69), true)⟩,
        ⟨.t 73, .ld false 1 (.t 72), some ((.t 69), true)⟩,
        ⟨.t 74, .bin .eql (.t 73) (.c (.p (.i .i64 0))), some ((.t 69), true)⟩,
        ⟨.l 75, .pick (.t 69) (.t 74) (.c (.p (.b false))), none⟩]) (
      .cond (.l 75) (
        .skip) (
        .exit 2))) (
      .seq (.blk 3 (
        .drw [
          ⟨.t 78, .fad 0 (.l 8), none⟩,
          ⟨.t 79, .ld false 1 (.t 78), none⟩,
          ⟨.t 80, .mv (.l 5), none⟩,
          ⟨.t 81, .call 87 [.t 80], none⟩,
          ⟨.t 82, .bsl 6 [.p (.i .i64 0), .p (.i .i64 0), .p (.i .i64 0), .p (.i .i64 0), .p (.i .i64 0), .p (.s [])] 1 [(0, (.t 81))], none⟩] [
          ⟨.t 83, .app 6 56 (.t 79) (.t 82), none⟩,
          ⟨.t 84, .fad 0 (.l 8), none⟩,
          ⟨.no, .sto 1 (.t 84) (.t 83), none⟩])) (
      .reg [
        ⟨.t 76, .mv (.l 10), none⟩,
        ⟨.t 77, .bin .add (.t 76) (.c (.p (.i .i64 1))), none⟩,
        ⟨.l 10, .mv (.t 77), none⟩])))))) (
  .seq (.reg [
    ⟨.t 85, .mv (.l 0), none⟩,
    ⟨.t 86, .len false (.t 85), none⟩,
    ⟨.t 87, .mv (.l 5), none⟩,
    ⟨.t 88, .nilc (.t 87), none⟩,
    ⟨.t 89, .fad 1 (.t 88), none⟩,
    ⟨.t 90, .ld false 1 (.t 89), none⟩,
    ⟨.t 91, .bin .sub (.t 86) (.t 90), none⟩,
    ⟨.l 11, .mv (.t 91), none⟩]) (
  .seq (.blk 4 (
    .seq (.reg [
      ⟨.t 93, .mv (.l 5), none⟩,
      ⟨.t 94, .nilc (.t 93), none⟩,
      ⟨.t 95, .fad 2 (.t 94), none⟩,
      ⟨.t 96, .ld false 1 (.t 95), none⟩,
      ⟨.t 97, .bin .neq (.t 96) (.c (.p (.i .i64 0))), none⟩,
      ⟨.l 92, .mv (.t 97), none⟩]) (
    .cond (.l 92) (
      .seq (.drw [
        ⟨.t 98, .ld true 2 (.l 4), none⟩,
        ⟨.t 99, .mv (.l 5), none⟩,
        ⟨.t 100, .nilc (.t 99), none⟩,
        ⟨.t 101, .fad 2 (.t 100), none⟩,
        ⟨.t 102, .ld false 1 (.t 101), none⟩,
        ⟨.no, .sto 2 (.l 2) (.t 98), none⟩] [
        ⟨.l 3, .mv (.t 102), none⟩]) (
      .ret)) (
      .seq (.reg [
        ⟨.t 104, .mv (.l 11), none⟩,
        ⟨.t 105, .bin .lss (.t 104) (.c (.p (.i .i64 4))), none⟩,
        ⟨.l 103, .mv (.t 105), none⟩]) (
      .cond (.l 103) (
        .seq (.reg [
          ⟨.t 106, .ld true 2 (.l 4), none⟩,
          ⟨.no, .sto 2 (.l 2) (.t 106), none⟩,
          ⟨.l 3, .mv (.c (.p (.i .i64 2))), none⟩]) (
        .ret)) (
        .seq (.reg [
          ⟨.t 108, .mv (.l 11), none⟩,
          ⟨.t 109, .bin .gtr (.t 108) (.c (.p (.i .i64 4))), none⟩,
          ⟨.l 107, .mv (.t 109), none⟩]) (
        .cond (.l 107) (
          .seq (.reg [
            ⟨.t 110, .ld true 2 (.l 4), none⟩,
            ⟨.no, .sto 2 (.l 2) (.t 110), none⟩,
            ⟨.l 3, .mv (.c (.p (.i .i64 3))), none⟩]) (
          .ret)) (
          .seq (.drw [
            ⟨.t 112, .mv (.l 0), none⟩,
            ⟨.t 113, .mv (.l 5), none⟩,
            ⟨.t 114, .nilc (.t 113), none⟩,
            ⟨.t 115, .fad 1 (.t 114), none⟩,
            ⟨.t 116, .ld false 1 (.t 115), none⟩,
            ⟨.t 117, .slc (some 1) (.t 112) none (some (.t 116)), none⟩,
            ⟨.t 118, .call 72 [.t 117], none⟩,
            ⟨.t 119, .mv (.l 0), none⟩,
            ⟨.t 120, .mv (.l 5), none⟩,
            ⟨.t 121, .nilc (.t 120), none⟩,
            ⟨.t 122, .fad 1 (.t 121), none⟩,
            ⟨.t 123, .ld false 1 (.t 122), none⟩,
            ⟨.t 124, .slc (some 1) (.t 119) (some (.t 123)) none, none⟩] [
            ⟨.t 125, .call 88 [.t 118, .t 124], none⟩,
            ⟨.t 126, .un .not (.t 125), none⟩,
            ⟨.l 111, .mv (.t 126), none⟩]) (
          .cond (.l 111) (
            .seq (.reg [
              ⟨.t 127, .ld true 2 (.l 4), none⟩,
              ⟨.no, .sto 2 (.l 2) (.t 127), none⟩,
              ⟨.l 3, .mv (.c (.p (.i .i64 4))), none⟩]) (
            .ret)) (
            .seq (.reg [
              ⟨.t 129, .ld true 2 (.l 8), none⟩,
              ⟨.t 130, .call 70 [.t 129], none⟩,
              ⟨.t 131, .un .not (.t 130), none⟩,
              ⟨.l 128, .mv (.t 131), none⟩]) (
            .cond (.l 128) (
              .seq (.reg [
                ⟨.t 132, .ld true 2 (.l 4), none⟩,
                ⟨.no, .sto 2 (.l 2) (.t 132), none⟩,
                ⟨.l 3, .mv (.c (.p (.i .i64 5))), none⟩]) (
              .ret)) (
              .skip)))))))))))) (
  .seq (.reg [
    ⟨.t 133, .ld true 2 (.l 8), none⟩,
    ⟨.no, .sto 2 (.l 2) (.t 133), none⟩,
    ⟨.l 3, .mv (.c (.p (.i .i64 0))), none⟩]) (
  .ret)))))))))))))
theorem mc36_eq : (Try.f36.body.map (compile lv36 Try.prog 134)) = some mc36 := by kernel_rfl
def mr36 : List MR := [.cell true 2 2, .t 3]
theorem mr36_eq : cRess lv36 Try.prog Try.f36.results.toList = some mr36 := by kernel_rfl
theorem call36 {args : List AV} {H : List AO} {Q : AV → List AO → Prop} (hla : args.length ≤ 134) (h : wpm (ACall Try.prog) mc36 (finK mr36 Q) ⟨argEnv 0 args, [], H⟩) : ACall Try.prog 36 args H Q :=
  acall_mc (by kernel_rfl) Try.func36 mc36_eq Try.ntmps36 (by kernel_rfl) mr36_eq hla h
def lv37 : List Nat := [0, 2, 3, 4, 11]
def mc37 : MC :=
.seq (.reg [
    ⟨.l 2, .mv (.c (.p (.nl))), none⟩]) (
  .seq (.reg [
    ⟨.t 5, .mv (.l 0), none⟩,
    ⟨.t 6, .len false (.t 5), none⟩,
    ⟨.t 7, .mks 1 1 [.p (.i .u8 0)] (.t 6) (.t 6), none⟩,
    ⟨.l 3, .mv (.t 7), none⟩]) (
  .seq (.seq (.reg [
    ⟨.l 4, .mv (.c (.p (.i .i64 0))), none⟩]) (
  .blk 0 (
    .loop (
      .seq (.seq (.reg [
        ⟨.t 8, .mv (.l 4), none⟩,
        ⟨.t 9, .mv (.l 0), none⟩,
        ⟨.t 10, .len false (.t 9), none⟩,
        ⟨.l 11, .bin .lss (.t 8) (.t 10), none⟩]) (
      .cond (.l 11) (
        .skip) (
        .exit 0))) (
      .seq (.blk 1 (
        .reg [
          ⟨.t 14, .mv (.l 3), none⟩,
          ⟨.t 15, .mv (.l 4), none⟩,
          ⟨.t 16, .mv (.l 0), none⟩,
          ⟨.t 17, .mv (.l 4), none⟩,
          ⟨.t 18, .ixs 1 (.t 16) (.t 17), none⟩,
          ⟨.t 19, .ld false 1 (.t 18), none⟩,
          ⟨.t 20, .ixs 1 (.t 14) (.t 15), none⟩,
          ⟨.no, .sto 1 (.t 20) (.t 19), none⟩])) (
      .reg [
        ⟨.t 12, .mv (.l 4), none⟩,
        ⟨.t 13, .bin .add (.t 12) (.c (.p (.i .i64 1))), none⟩,
        ⟨.l 4, .mv (.t 13), none⟩])))))) (
  .seq (.reg [
    ⟨.t 21, .mv (.l 3), none⟩,
    ⟨.l 2, .mv (.t 21), none⟩]) (
  .ret))))
theorem mc37_eq : (Try.f37.body.map (compile lv37 Try.prog 22)) = some mc37 := by kernel_rfl
def mr37 : List MR := [.t 2]
theorem mr37_eq : cRess lv37 Try.prog Try.f37.results.toList = some mr37 := by kernel_rfl
theorem call37 {args : List AV} {H : List AO} {Q : AV → List AO → Prop} (hla : args.length ≤ 22) (h : wpm (ACall Try.prog) mc37 (finK mr37 Q) ⟨argEnv 0 args, [], H⟩) : ACall Try.prog 37 args H Q :=
  acall_mc (by kernel_rfl) Try.func37 mc37_eq Try.ntmps37 (by kernel_rfl) mr37_eq hla h
def lv38 : List Nat := [0, 2, 3, 4, 5, 6, 7, 8, 9, 10, 13, 22, 40, 59, 76, 87, 91, 95, 112]
def mc38 : MC :=
.seq (.reg [
    ⟨.l 2, .alloc [.p (.nl), .p (.nl)], none⟩,
    ⟨.l 3, .mv (.c (.p (.i .i64 0))), none⟩]) (
  .seq (.seq (.reg [
    ⟨.t 11, .mv (.l 0), none⟩,
    ⟨.t 12, .len false (.t 11), none⟩,
    ⟨.l 13, .bin .gtr (.t 12) (.c (.p (.i .i64 200000))), none⟩]) (
  .cond (.l 13) (
    .seq (.reg [
      ⟨.t 14, .build [.p (.nl), .p (.nl)] [], none⟩,
      ⟨.no, .sto 2 (.l 2) (.t 14), none⟩,
      ⟨.l 3, .mv (.c (.p (.i .i64 6))), none⟩]) (
    .ret)) (
    .skip))) (
  .seq (.seq (.drw [
    ⟨.t 15, .mv (.l 0), none⟩,
    ⟨.t 16, .mv (.l 0), none⟩,
    ⟨.t 17, .lenq false (.t 16), none⟩,
    ⟨.t 18, .mnx false (.c (.p (.i .i64 3))) (.t 17), none⟩,
    ⟨.t 19, .slc (some 1) (.t 15) none (some (.t 18)), none⟩,
    ⟨.t 20, .call 75 [], none⟩] [
    ⟨.t 21, .call 89 [.t 19, .t 20], none⟩,
    ⟨.l 22, .un .not (.t 21), none⟩]) (
  .cond (.l 22) (
    .seq (.reg [
      ⟨.t 23, .build [.p (.nl), .p (.nl)] [], none⟩,
      ⟨.no, .sto 2 (.l 2) (.t 23), none⟩,
      ⟨.l 3, .mv (.c (.p (.i .i64 1))), none⟩]) (
    .ret)) (
    .skip))) (
  .seq (.reg [
    ⟨.t 24, .mv (.l 0), none⟩,
    ⟨.t 25, .build [.p (.nl), .p (.i .i64 0), .p (.i .i64 0)] [(0, 1, (.t 24)), (1, 1, (.c (.p (.i .i64 3))))], none⟩,
    ⟨.t 26, .box 3 (.t 25), none⟩,
    ⟨.l 4, .mv (.t 26), none⟩]) (
  .seq (.reg [
    ⟨.t 27, .mv (.l 4), none⟩,
    ⟨.t 28, .call 90 [.t 27], none⟩,
    ⟨.l 5, .mv (.t 28), none⟩]) (
  .seq (.reg [
    ⟨.t 29, .mv (.l 4), none⟩,
    ⟨.t 30, .call 90 [.t 29], none⟩,
    ⟨.l 6, .mv (.t 30), none⟩]) (
  .seq (.reg [
    ⟨.l 7, .alloc [.p (.nl), .p (.nl)], none⟩]) (
  .seq (.seq (.reg [
    ⟨.l 8, .mv (.c (.p (.i .i64 0))), none⟩]) (
  .blk 0 (
    .loop (
      .seq (.seq (.reg [
        ⟨.t 31, .mv (.l 8), none⟩,
        ⟨.t 32, .mv (.l 5), none⟩,
        ⟨.t 33, .bin .lss (.t 31) (.t 32), none⟩,
        ⟨.t 34, .mv (.t 33), none⟩,
        ⟨.t 35, .mv (.l 4), some ((.t 34), true)⟩,
        ⟨.t 36, .nilc (.t 35), some ((.t 34), true)⟩,
        ⟨.t 37, .fad 2 (.t 36), some ((.t 34), true)⟩,
        ⟨.t 38, .ld false 1 (.t 37), some ((.t 34), true)⟩,
        ⟨.t 39, .bin .eql (.t 38) (.c (.p (.i .i64 0))), some ((.t 34), true)⟩,
        ⟨.l 40, .pick (.t 34) (.t 39) (.c (.p (.b false))), none⟩]) (
      .cond (.l 40) (
        .skip) (
        .exit 0))) (
      .seq (.blk 1 (
        .drw [
          ⟨.t 43, .fad 1 (.l 7), none⟩,
          ⟨.t 44, .ld false 1 (.t 43), none⟩,
          ⟨.t 45, .mv (.l 4), none⟩,
          ⟨.t 46, .call 91 [.t 45], none⟩,
          ⟨.t 47, .bsl 1 [.p (.i .i64 0)] 1 [(0, (.t 46))], none⟩] [
          ⟨.t 48, .app 1 8 (.t 44) (.t 47), none⟩,
          ⟨.t 49, .fad 1 (.l 7), none⟩,
          ⟨.no, .sto 1 (.t 49) (.t 48), none⟩])) (
      .reg [
        ⟨.t 41, .mv (.l 8), none⟩,
        ⟨.t 42, .bin .add (.t 41) (.c (.p (.i .i64 1))), none⟩,
        ⟨.l 8, .mv (.t 42), none⟩])))))) (
  .seq (.seq (.reg [
    ⟨.l 9, .mv (.c (.p (.i .i64 0))), none⟩]) (
  .blk 2 (
    .loop (
      .seq (.seq (.reg [
        ⟨.t 50, .mv (.l 9), none⟩,
        ⟨.t 51, .mv (.l 6), none⟩,
        ⟨.t 52, .bin .lss (.t 50) (.t 51), none⟩,
        ⟨.t 53, .mv (.t 52), none⟩,
        ⟨.t 54, .mv (.l 4), some ((.t 53), true)⟩,
        ⟨.t 55, .nilc (.t 54), some ((.t 53), true)⟩,
        ⟨.t 56, .fad 2 (.t 55), some ((.t 53), true)⟩,
        ⟨.t 57, .ld false 1 (.t 56), some ((.t 53), true)⟩,
        ⟨.t 58, .bin .eql (.t 57) (.c (.p (.i .i64 0))), some ((.t 53), true)⟩,
        ⟨.l 59, .pick (.t 53) (.t 58) (.c (.p (.b false))), none⟩]) (
      .cond (.l 59) (
        .skip) (
        .exit 2))) (
      .seq (.blk 3 (
        .drw [
          ⟨.t 62, .fad 0 (.l 7), none⟩,
          ⟨.t 63, .ld false 1 (.t 62), none⟩,
          ⟨.t 64, .mv (.l 4), none⟩,
          ⟨.t 65, .call 92 [.t 64], none⟩,
          ⟨.t 66, .bsl 6 [.p (.i .i64 0), .p (.i .i64 0), .p (.i .i64 0), .p (.i .i64 0), .p (.i .i64 0), .p (.s [])] 1 [(0, (.t 65))], none⟩] [
          ⟨.t 67, .app 6 56 (.t 63) (.t 66), none⟩,
          ⟨.t 68, .fad 0 (.l 7), none⟩,
          ⟨.no, .sto 1 (.t 68) (.t 67), none⟩])) (
      .reg [
        ⟨.t 60, .mv (.l 9), none⟩,
        ⟨.t 61, .bin .add (.t 60) (.c (.p (.i .i64 1))), none⟩,
        ⟨.l 9, .mv (.t 61), none⟩])))))) (
  .seq (.seq (.reg [
    ⟨.t 69, .mv (.l 0), none⟩,
    ⟨.t 70, .len false (.t 69), none⟩,
    ⟨.t 71, .mv (.l 4), none⟩,
    ⟨.t 72, .nilc (.t 71), none⟩,
    ⟨.t 73, .fad 1 (.t 72), none⟩,
    ⟨.t 74, .ld false 1 (.t 73), none⟩,
    ⟨.t 75, .bin .sub (.t 70) (.t 74), none⟩,
    ⟨.l 10, .mv (.t 75), none⟩]) (
  .blk 4 (
    .seq (.reg [
      ⟨.t 77, .mv (.l 4), none⟩,
      ⟨.t 78, .nilc (.t 77), none⟩,
      ⟨.t 79, .fad 2 (.t 78), none⟩,
      ⟨.t 80, .ld false 1 (.t 79), none⟩,
      ⟨.t 81, .bin .neq (.t 80) (.c (.p (.i .i64 0))), none⟩,
      ⟨.l 76, .mv (.t 81), none⟩]) (
    .cond (.l 76) (
      .seq (.drw [
        ⟨.t 82, .build [.p (.nl), .p (.nl)] [], none⟩,
        ⟨.t 83, .mv (.l 4), none⟩,
        ⟨.t 84, .nilc (.t 83), none⟩,
        ⟨.t 85, .fad 2 (.t 84), none⟩,
        ⟨.t 86, .ld false 1 (.t 85), none⟩,
        ⟨.no, .sto 2 (.l 2) (.t 82), none⟩] [
        ⟨.l 3, .mv (.t 86), none⟩]) (
      .ret)) (
      .seq (.reg [
        ⟨.t 88, .mv (.l 10), none⟩,
        ⟨.t 89, .bin .lss (.t 88) (.c (.p (.i .i64 4))), none⟩,
        ⟨.l 87, .mv (.t 89), none⟩]) (
      .cond (.l 87) (
        .seq (.reg [
          ⟨.t 90, .build [.p (.nl), .p (.nl)] [], none⟩,
          ⟨.no, .sto 2 (.l 2) (.t 90), none⟩,
          ⟨.l 3, .mv (.c (.p (.i .i64 2))), none⟩]) (
        .ret)) (
        .seq (.reg [
          ⟨.t 92, .mv (.l 10), none⟩,
          ⟨.t 93, .bin .gtr (.t 92) (.c (.p (.i .i64 4))), none⟩,
          ⟨.l 91, .mv (.t 93), none⟩]) (
        .cond (.l 91) (
          .seq (.reg [
            ⟨.t 94, .build [.p (.nl), .p (.nl)] [], none⟩,
            ⟨.no, .sto 2 (.l 2) (.t 94), none⟩,
            ⟨.l 3, .mv (.c (.p (.i .i64 3))), none⟩]) (
          .ret)) (
          .seq (.drw [
            ⟨.t 96, .mv (.l 0), none⟩,
            ⟨.t 97, .mv (.l 4), none⟩,
            ⟨.t 98, .nilc (.t 97), none⟩,
            ⟨.t 99, .fad 1 (.t 98), none⟩,
            ⟨.t 100, .ld false 1 (.t 99), none⟩,
            ⟨.t 101, .slc (some 1) (.t 96) none (some (.t 100)), none⟩,
            ⟨.t 102, .call 77 [.t 101], none⟩,
            ⟨.t 103, .mv (.l 0), none⟩,
            ⟨.t 104, .mv (.l 4), none⟩,
            ⟨.t 105, .nilc (.t 104), none⟩,
            ⟨.t 106, .fad 1 (.t 105), none⟩,
            ⟨.t 107, .ld false 1 (.t 106), none⟩,
            ⟨.t 108, .slc (some 1) (.t 103) (some (.t 107)) none, none⟩] [
            ⟨.t 109, .call 89 [.t 102, .t 108], none⟩,
            ⟨.t 110, .un .not (.t 109), none⟩,
            ⟨.l 95, .mv (.t 110), none⟩]) (
          .cond (.l 95) (
            .seq (.reg [
              ⟨.t 111, .build [.p (.nl), .p (.nl)] [], none⟩,
              ⟨.no, .sto 2 (.l 2) (.t 111), none⟩,
              ⟨.l 3, .mv (.c (.p (.i .i64 4))), none⟩]) (
            .ret)) (
            .seq (.reg [
              ⟨.t 113, .ld true 2 (.l 7), none⟩,
              ⟨.t 114, .call 74 [.t 113], none⟩,
              ⟨.t 115, .un .not (.t 114), none⟩,
              ⟨.l 112, .mv (.t 115), none⟩]) (
            .cond (.l 112) (
              .seq (.reg [
                ⟨.t 116, .build [.p (.nl), .p (.nl)] [], none⟩,
                ⟨.no, .sto 2 (.l 2) (.t 116), none⟩,
                ⟨.l 3, .mv (.c (.p (.i .i64 5))), none⟩]) (
              .ret)) (
              .skip))))))))))))) (
  .seq (.reg [
    ⟨.t 117, .ld true 2 (.l 7), none⟩,
    ⟨.no, .sto 2 (.l 2) (.t 117), none⟩,
    ⟨.l 3, .mv (.c (.p (.i .i64 0))), none⟩]) (
  .ret)))))))))))
theorem mc38_eq : (Try.f38.body.map (compile lv38 Try.prog 118)) = some mc38 := by kernel_rfl
def mr38 : List MR := [.cell true 2 2, .t 3]
theorem mr38_eq : cRess lv38 Try.prog Try.f38.results.toList = some mr38 := by kernel_rfl
theorem call38 {args : List AV} {H : List AO} {Q : AV → List AO → Prop} (hla : args.length ≤ 118) (h : wpm (ACall Try.prog) mc38 (finK mr38 Q) ⟨argEnv 0 args, [], H⟩) : ACall Try.prog 38 args H Q :=
  acall_mc (by kernel_rfl) Try.func38 mc38_eq Try.ntmps38 (by kernel_rfl) mr38_eq hla h
def lv85 : List Nat := [0, 2, 3, 15, 23]
def mc85 : MC :=
.seq (.reg [
    ⟨.l 2, .mv (.c (.p (.i .i64 0))), none⟩]) (
  .seq (.reg [
    ⟨.t 4, .mv (.l 0), none⟩,
    ⟨.t 5, .call 86 [.t 4], none⟩,
    ⟨.l 3, .mv (.t 5), none⟩]) (
  .seq (.seq (.reg [
    ⟨.t 6, .mv (.l 0), none⟩,
    ⟨.t 7, .nilc (.t 6), none⟩,
    ⟨.t 8, .fad 2 (.t 7), none⟩,
    ⟨.t 9, .ld false 1 (.t 8), none⟩,
    ⟨.t 10, .bin .eql (.t 9) (.c (.p (.i .i64 0))), none⟩,
    ⟨.t 11, .mv (.t 10), none⟩,
    ⟨.t 12, .mv (.l 3), some ((.t 11), true)⟩,
    ⟨.t 13, .call 122 [.t 12, .c (.p (.i .i64 0)), .c (.p (.i .i64 200000))], some ((.t 11), true)⟩,
    ⟨.t 14, .un .not (.t 13), some ((.t 11), true)⟩,
    ⟨.l 15, .pick (.t 11) (.t 14) (.c (.p (.b false))), none⟩]) (
  .cond (.l 15) (
    .reg [
      ⟨.t 16, .mv (.l 0), none⟩,
      ⟨.t 17, .nilc (.t 16), none⟩,
      ⟨.t 18, .fad 2 (.t 17), none⟩,
      ⟨.no, .sto 1 (.t 18) (.c (.p (.i .i64 3))), none⟩]) (
    .skip))) (
  .seq (.seq (.reg [
    ⟨.t 19, .mv (.l 0), none⟩,
    ⟨.t 20, .nilc (.t 19), none⟩,
    ⟨.t 21, .fad 2 (.t 20), none⟩,
    ⟨.t 22, .ld false 1 (.t 21), none⟩,
    ⟨.l 23, .bin .neq (.t 22) (.c (.p (.i .i64 0))), none⟩]) (
  .cond (.l 23) (
    .seq (.reg [
      ⟨.l 2, .mv (.c (.p (.i .i64 0))), none⟩]) (
    .ret)) (
    .skip))) (
  .seq (.reg [
    ⟨.t 24, .mv (.l 3), none⟩,
    ⟨.l 2, .mv (.t 24), none⟩]) (
  .ret)))))
theorem mc85_eq : (Try.f85.body.map (compile lv85 Try.prog 25)) = some mc85 := by kernel_rfl
def mr85 : List MR := [.t 2]
theorem mr85_eq : cRess lv85 Try.prog Try.f85.results.toList = some mr85 := by kernel_rfl
theorem call85 {args : List AV} {H : List AO} {Q : AV → List AO → Prop} (hla : args.length ≤ 25) (h : wpm (ACall Try.prog) mc85 (finK mr85 Q) ⟨argEnv 0 args, [], H⟩) : ACall Try.prog 85 args H Q :=
  acall_mc (by kernel_rfl) Try.func85 mc85_eq Try.ntmps85 (by kernel_rfl) mr85_eq hla h
def lv86 : List Nat := [0, 2, 3, 4, 5, 6, 11, 26, 59, 77]
def mc86 : MC :=
.seq (.reg [
    ⟨.l 2, .mv (.c (.p (.i .i64 0))), none⟩]) (
  .seq (.seq (.reg [
    ⟨.t 7, .mv (.l 0), none⟩,
    ⟨.t 8, .nilc (.t 7), none⟩,
    ⟨.t 9, .fad 2 (.t 8), none⟩,
    ⟨.t 10, .ld false 1 (.t 9), none⟩,
    ⟨.l 11, .bin .neq (.t 10) (.c (.p (.i .i64 0))), none⟩]) (
  .cond (.l 11) (
    .seq (.reg [
      ⟨.l 2, .mv (.c (.p (.i .i64 0))), none⟩]) (
    .ret)) (
    .skip))) (
  .seq (.drw [
    ⟨.t 13, .mv (.l 0), none⟩,
    ⟨.t 14, .nilc (.t 13), none⟩,
    ⟨.t 15, .fad 0 (.t 14), none⟩,
    ⟨.t 16, .ld false 1 (.t 15), none⟩,
    ⟨.t 17, .mv (.l 0), none⟩,
    ⟨.t 18, .nilc (.t 17), none⟩,
    ⟨.t 19, .fad 1 (.t 18), none⟩,
    ⟨.t 20, .ld false 1 (.t 19), none⟩,
    ⟨.t 21, .call 138 [.t 16, .t 20], none⟩,
    ⟨.t 12, .mv (.t 21), none⟩,
    ⟨.t 22, .ext (.t 12) 0, none⟩,
    ⟨.t 23, .ext (.t 12) 1, none⟩,
    ⟨.t 24, .ext (.t 12) 2, none⟩,
    ⟨.l 3, .mv (.t 22), none⟩,
    ⟨.l 4, .mv (.t 23), none⟩] [
    ⟨.l 5, .mv (.t 24), none⟩]) (
  .seq (.seq (.reg [
    ⟨.t 25, .mv (.l 5), none⟩,
    ⟨.l 26, .un .not (.t 25), none⟩]) (
  .cond (.l 26) (
    .seq (.reg [
      ⟨.t 27, .mv (.l 0), none⟩,
      ⟨.t 28, .nilc (.t 27), none⟩,
      ⟨.t 29, .fad 2 (.t 28), none⟩,
      ⟨.no, .sto 1 (.t 29) (.c (.p (.i .i64 3))), none⟩]) (
    .seq (.reg [
      ⟨.t 30, .mv (.l 0), none⟩,
      ⟨.t 31, .nilc (.t 30), none⟩,
      ⟨.t 32, .fad 1 (.t 31), none⟩,
      ⟨.t 33, .ld false 1 (.t 32), none⟩,
      ⟨.l 6, .mv (.t 33), none⟩]) (
    .seq (.blk 0 (
      .loop (
        .seq (.seq (.reg [
          ⟨.t 34, .mv (.l 6), none⟩,
          ⟨.t 35, .mv (.l 0), none⟩,
          ⟨.t 36, .nilc (.t 35), none⟩,
          ⟨.t 37, .fad 0 (.t 36), none⟩,
          ⟨.t 38, .ld false 1 (.t 37), none⟩,
          ⟨.t 39, .len false (.t 38), none⟩,
          ⟨.t 40, .bin .lss (.t 34) (.t 39), none⟩,
          ⟨.t 41, .mv (.t 40), none⟩,
          ⟨.t 42, .mv (.l 6), some ((.t 41), true)⟩,
          ⟨.t 43, .mv (.l 0), some ((.t 41), true)⟩,
          ⟨.t 44, .nilc (.t 43), some ((.t 41), true)⟩,
          ⟨.t 45, .fad 1 (.t 44), some ((.t 41), true)⟩,
          ⟨.t 46, .ld false 1 (.t 45), some ((.t 41), true)⟩,
          ⟨.t 47, .bin .add (.t 46) (.c (.p (.i .i64 10))), some ((.t 41), true)⟩,
          ⟨.t 48, .bin .lss (.t 42) (.t 47), some ((.t 41), true)⟩,
          ⟨.t 49, .pick (.t 41) (.t 48) (.c (.p (.b false))), none⟩,
          ⟨.t 50, .mv (.t 49), none⟩,
          ⟨.t 51, .mv (.l 0), some ((.t 50), true)⟩,
          ⟨.t 52, .nilc (.t 51), some ((.t 50), true)⟩,
          ⟨.t 53, .fad 0 (.t 52), some ((.t 50), true)⟩,
          ⟨.t 54, .ld false 1 (.t 53), some ((.t 50), true)⟩,
          ⟨.t 55, .mv (.l 6), some ((.t 50), true)⟩,
          ⟨.t 56, .ixs 1 (.t 54) (.t 55), some ((.t 50), true)⟩,
          ⟨.t 57, .ld false 1 (.t 56), some ((.t 50), true)⟩,
          ⟨.t 58, .bin .geq (.t 57) (.c (.p (.i .u8 128))), some ((.t 50), true)⟩,
          ⟨.l 59, .pick (.t 50) (.t 58) (.c (.p (.b false))), none⟩]) (
        .cond (.l 59) (
          .skip) (
          .exit 0))) (
        .blk 1 (
          .reg [
            ⟨.t 60, .mv (.l 6), none⟩,
            ⟨.t 61, .bin .add (.t 60) (.c (.p (.i .i64 1))), none⟩,
            ⟨.l 6, .mv (.t 61), none⟩]))))) (
    .seq (.seq (.reg [
      ⟨.t 62, .mv (.l 6), none⟩,
      ⟨.t 63, .mv (.l 0), none⟩,
      ⟨.t 64, .nilc (.t 63), none⟩,
      ⟨.t 65, .fad 0 (.t 64), none⟩,
      ⟨.t 66, .ld false 1 (.t 65), none⟩,
      ⟨.t 67, .len false (.t 66), none⟩,
      ⟨.t 68, .bin .eql (.t 62) (.t 67), none⟩,
      ⟨.t 69, .mv (.t 68), none⟩,
      ⟨.t 70, .mv (.l 6), some ((.t 69), true)⟩,
      ⟨.t 71, .mv (.l 0), some ((.t 69), true)⟩,
      ⟨.t 72, .nilc (.t 71), some ((.t 69), true)⟩,
      ⟨.t 73, .fad 1 (.t 72), some ((.t 69), true)⟩,
      ⟨.t 74, .ld false 1 (.t 73), some ((.t 69), true)⟩,
      ⟨.t 75, .bin .add (.t 74) (.c (.p (.i .i64 10))), some ((.t 69), true)⟩,
      ⟨.t 76, .bin .lss (.t 70) (.t 75), some ((.t 69), true)⟩,
      ⟨.l 77, .pick (.t 69) (.t 76) (.c (.p (.b false))), none⟩]) (
    .cond (.l 77) (
      .reg [
        ⟨.t 78, .mv (.l 0), none⟩,
        ⟨.t 79, .nilc (.t 78), none⟩,
        ⟨.t 80, .fad 2 (.t 79), none⟩,
        ⟨.no, .sto 1 (.t 80) (.c (.p (.i .i64 2))), none⟩]) (
      .skip))) (
    .seq (.reg [
      ⟨.l 2, .mv (.c (.p (.i .i64 0))), none⟩]) (
    .ret)))))) (
    .skip))) (
  .seq (.reg [
    ⟨.t 81, .mv (.l 0), none⟩,
    ⟨.t 82, .mv (.l 4), none⟩,
    ⟨.t 83, .nilc (.t 81), none⟩,
    ⟨.t 84, .fad 1 (.t 83), none⟩,
    ⟨.no, .sto 1 (.t 84) (.t 82), none⟩]) (
  .seq (.reg [
    ⟨.t 85, .mv (.l 3), none⟩,
    ⟨.l 2, .mv (.t 85), none⟩]) (
  .ret))))))
theorem mc86_eq : (Try.f86.body.map (compile lv86 Try.prog 86)) = some mc86 := by kernel_rfl
def mr86 : List MR := [.t 2]
theorem mr86_eq : cRess lv86 Try.prog Try.f86.results.toList = some mr86 := by kernel_rfl
theorem call86 {args : List AV} {H : List AO} {Q : AV → List AO → Prop} (hla : args.length ≤ 86) (h : wpm (ACall Try.prog) mc86 (finK mr86 Q) ⟨argEnv 0 args, [], H⟩) : ACall Try.prog 86 args H Q :=
  acall_mc (by kernel_rfl) Try.func86 mc86_eq Try.ntmps86 (by kernel_rfl) mr86_eq hla h
def lv87 : List Nat := [0, 2, 3, 4, 5, 43, 51]
def mc87 : MC :=
.seq (.reg [
    ⟨.l 2, .alloc [.p (.i .i64 0), .p (.i .i64 0), .p (.i .i64 0), .p (.i .i64 0), .p (.i .i64 0), .p (.s [])], none⟩]) (
  .seq (.reg [
    ⟨.t 6, .mv (.l 0), none⟩,
    ⟨.t 7, .call 139 [.t 6], none⟩,
    ⟨.t 8, .build [.p (.i .i64 0), .p (.i .i64 0), .p (.i .i64 0), .p (.i .i64 0), .p (.i .i64 0), .p (.s [])] [(0, 1, (.t 7))], none⟩,
    ⟨.l 3, .alloc [.p (.i .i64 0), .p (.i .i64 0), .p (.i .i64 0), .p (.i .i64 0), .p (.i .i64 0), .p (.s [])], none⟩,
    ⟨.no, .sto 6 (.l 3) (.t 8), none⟩]) (
  .seq (.reg [
    ⟨.t 9, .mv (.l 0), none⟩,
    ⟨.t 10, .call 139 [.t 9], none⟩,
    ⟨.l 4, .mv (.t 10), none⟩]) (
  .seq (.reg [
    ⟨.t 11, .mv (.l 4), none⟩,
    ⟨.t 12, .bin .quo (.t 11) (.c (.p (.i .i64 16))), none⟩,
    ⟨.t 13, .fad 1 (.l 3), none⟩,
    ⟨.no, .sto 1 (.t 13) (.t 12), none⟩]) (
  .seq (.reg [
    ⟨.t 14, .mv (.l 4), none⟩,
    ⟨.t 15, .bin .rem (.t 14) (.c (.p (.i .i64 16))), none⟩,
    ⟨.t 16, .fad 2 (.l 3), none⟩,
    ⟨.no, .sto 1 (.t 16) (.t 15), none⟩]) (
  .seq (.reg [
    ⟨.t 17, .mv (.l 0), none⟩,
    ⟨.t 18, .call 139 [.t 17], none⟩,
    ⟨.t 19, .fad 3 (.l 3), none⟩,
    ⟨.no, .sto 1 (.t 19) (.t 18), none⟩]) (
  .seq (.reg [
    ⟨.t 20, .mv (.l 0), none⟩,
    ⟨.t 21, .call 86 [.t 20], none⟩,
    ⟨.t 22, .fad 4 (.l 3), none⟩,
    ⟨.no, .sto 1 (.t 22) (.t 21), none⟩]) (
  .seq (.reg [
    ⟨.t 23, .mv (.l 0), none⟩,
    ⟨.t 24, .call 85 [.t 23], none⟩,
    ⟨.l 5, .mv (.t 24), none⟩]) (
  .seq (.seq (.drw [
    ⟨.t 25, .mv (.l 0), none⟩,
    ⟨.t 26, .nilc (.t 25), none⟩,
    ⟨.t 27, .fad 2 (.t 26), none⟩,
    ⟨.t 28, .ld false 1 (.t 27), none⟩,
    ⟨.t 29, .bin .eql (.t 28) (.c (.p (.i .i64 0))), none⟩,
    ⟨.t 30, .mv (.t 29), none⟩,
    ⟨.t 31, .mv (.l 5), some ((.t 30), true)⟩,
    ⟨.t 32, .mv (.l 0), some ((.t 30), true)⟩,
    ⟨.t 33, .nilc (.t 32), some ((.t 30), true)⟩,
    ⟨.t 34, .fad 0 (.t 33), some ((.t 30), true)⟩,
    ⟨.t 35, .ld false 1 (.t 34), some ((.t 30), true)⟩,
    ⟨.t 36, .lenq false (.t 35), some ((.t 30), true)⟩,
    ⟨.t 37, .mv (.l 0), some ((.t 30), true)⟩,
    ⟨.t 38, .nilc (.t 37), some ((.t 30), true)⟩,
    ⟨.t 39, .fad 1 (.t 38), some ((.t 30), true)⟩,
    ⟨.t 40, .ld false 1 (.t 39), some ((.t 30), true)⟩,
    ⟨.t 41, .bin .sub (.t 36) (.t 40), some ((.t 30), true)⟩] [
    ⟨.t 42, .bin .gtr (.t 31) (.t 41), some ((.t 30), true)⟩,
    ⟨.l 43, .pick (.t 30) (.t 42) (.c (.p (.b false))), none⟩]) (
  .cond (.l 43) (
    .reg [
      ⟨.t 44, .mv (.l 0), none⟩,
      ⟨.t 45, .nilc (.t 44), none⟩,
      ⟨.t 46, .fad 2 (.t 45), none⟩,
      ⟨.no, .sto 1 (.t 46) (.c (.p (.i .i64 2))), none⟩]) (
    .skip))) (
  .seq (.seq (.reg [
    ⟨.t 47, .mv (.l 0), none⟩,
    ⟨.t 48, .nilc (.t 47), none⟩,
    ⟨.t 49, .fad 2 (.t 48), none⟩,
    ⟨.t 50, .ld false 1 (.t 49), none⟩,
    ⟨.l 51, .bin .eql (.t 50) (.c (.p (.i .i64 0))), none⟩]) (
  .cond (.l 51) (
    .seq (.drw [
      ⟨.t 52, .mv (.l 0), none⟩,
      ⟨.t 53, .nilc (.t 52), none⟩,
      ⟨.t 54, .fad 0 (.t 53), none⟩,
      ⟨.t 55, .ld false 1 (.t 54), none⟩,
      ⟨.t 56, .mv (.l 0), none⟩,
      ⟨.t 57, .nilc (.t 56), none⟩,
      ⟨.t 58, .fad 1 (.t 57), none⟩,
      ⟨.t 59, .ld false 1 (.t 58), none⟩,
      ⟨.t 60, .mv (.l 0), none⟩,
      ⟨.t 61, .nilc (.t 60), none⟩,
      ⟨.t 62, .fad 1 (.t 61), none⟩,
      ⟨.t 63, .ld false 1 (.t 62), none⟩,
      ⟨.t 64, .mv (.l 5), none⟩,
      ⟨.t 65, .bin .add (.t 63) (.t 64), none⟩] [
      ⟨.t 66, .slc (some 1) (.t 55) (some (.t 59)) (some (.t 65)), none⟩,
      ⟨.t 67, .b2s (.t 66), none⟩,
      ⟨.t 68, .fad 5 (.l 3), none⟩,
      ⟨.no, .sto 1 (.t 68) (.t 67), none⟩]) (
    .reg [
      ⟨.t 69, .mv (.l 0), none⟩,
      ⟨.t 70, .mv (.l 0), none⟩,
      ⟨.t 71, .nilc (.t 70), none⟩,
      ⟨.t 72, .fad 1 (.t 71), none⟩,
      ⟨.t 73, .ld false 1 (.t 72), none⟩,
      ⟨.t 74, .mv (.l 5), none⟩,
      ⟨.t 75, .bin .add (.t 73) (.t 74), none⟩,
      ⟨.t 76, .nilc (.t 69), none⟩,
      ⟨.t 77, .fad 1 (.t 76), none⟩,
      ⟨.no, .sto 1 (.t 77) (.t 75), none⟩])) (
    .skip))) (
  .seq (.reg [
    ⟨.t 78, .ld true 6 (.l 3), none⟩,
    ⟨.no, .sto 6 (.l 2) (.t 78), none⟩]) (
  .ret)))))))))))
theorem mc87_eq : (Try.f87.body.map (compile lv87 Try.prog 79)) = some mc87 := by kernel_rfl
def mr87 : List MR := [.cell true 6 2]
theorem mr87_eq : cRess lv87 Try.prog Try.f87.results.toList = some mr87 := by kernel_rfl
theorem call87 {args : List AV} {H : List AO} {Q : AV → List AO → Prop} (hla : args.length ≤ 79) (h : wpm (ACall Try.prog) mc87 (finK mr87 Q) ⟨argEnv 0 args, [], H⟩) : ACall Try.prog 87 args H Q :=
  acall_mc (by kernel_rfl) Try.func87 mc87_eq Try.ntmps87 (by kernel_rfl) mr87_eq hla h
def lv88 : List Nat := [0, 1, 4, 5, 10, 14, 25]
def mc88 : MC :=
.seq (.reg [
    ⟨.l 4, .mv (.c (.p (.b false))), none⟩]) (
  .seq (.seq (.reg [
    ⟨.t 6, .mv (.l 0), none⟩,
    ⟨.t 7, .len false (.t 6), none⟩,
    ⟨.t 8, .mv (.l 1), none⟩,
    ⟨.t 9, .len false (.t 8), none⟩,
    ⟨.l 10, .bin .neq (.t 7) (.t 9), none⟩]) (
  .cond (.l 10) (
    .seq (.reg [
      ⟨.l 4, .mv (.c (.p (.b false))), none⟩]) (
    .ret)) (
    .skip))) (
  .seq (.seq (.reg [
    ⟨.l 5, .mv (.c (.p (.i .i64 0))), none⟩]) (
  .blk 0 (
    .loop (
      .seq (.seq (.reg [
        ⟨.t 11, .mv (.l 5), none⟩,
        ⟨.t 12, .mv (.l 0), none⟩,
        ⟨.t 13, .len false (.t 12), none⟩,
        ⟨.l 14, .bin .lss (.t 11) (.t 13), none⟩]) (
      .cond (.l 14) (
        .skip) (
        .exit 0))) (
      .seq (.blk 1 (
        .seq (.drw [
          ⟨.t 17, .mv (.l 0), none⟩,
          ⟨.t 18, .mv (.l 5), none⟩,
          ⟨.t 19, .ixs 1 (.t 17) (.t 18), none⟩,
          ⟨.t 20, .ld false 1 (.t 19), none⟩,
          ⟨.t 21, .mv (.l 1), none⟩,
          ⟨.t 22, .mv (.l 5), none⟩,
          ⟨.t 23, .ixs 1 (.t 21) (.t 22), none⟩,
          ⟨.t 24, .ld false 1 (.t 23), none⟩] [
          ⟨.l 25, .bin .neq (.t 20) (.t 24), none⟩]) (
        .cond (.l 25) (
          .seq (.reg [
            ⟨.l 4, .mv (.c (.p (.b false))), none⟩]) (
          .ret)) (
          .skip)))) (
      .reg [
        ⟨.t 15, .mv (.l 5), none⟩,
        ⟨.t 16, .bin .add (.t 15) (.c (.p (.i .i64 1))), none⟩,
        ⟨.l 5, .mv (.t 16), none⟩])))))) (
  .seq (.reg [
    ⟨.l 4, .mv (.c (.p (.b true))), none⟩]) (
  .ret))))
theorem mc88_eq : (Try.f88.body.map (compile lv88 Try.prog 26)) = some mc88 := by kernel_rfl
def mr88 : List MR := [.t 4]
theorem mr88_eq : cRess lv88 Try.prog Try.f88.results.toList = some mr88 := by kernel_rfl
theorem call88 {args : List AV} {H : List AO} {Q : AV → List AO → Prop} (hla : args.length ≤ 26) (h : wpm (ACall Try.prog) mc88 (finK mr88 Q) ⟨argEnv 0 args, [], H⟩) : ACall Try.prog 88 args H Q :=
  acall_mc (by kernel_rfl) Try.func88 mc88_eq Try.ntmps88 (by kernel_rfl) mr88_eq hla h
def lv89 : List Nat := [0, 1, 4, 5, 10, 12, 13, 14, 24]
def mc89 : MC :=
.seq (.reg [
    ⟨.l 4, .mv (.c (.p (.b false))), none⟩]) (
  .seq (.seq (.reg [
    ⟨.t 6, .mv (.l 0), none⟩,
    ⟨.t 7, .len false (.t 6), none⟩,
    ⟨.t 8, .mv (.l 1), none⟩,
    ⟨.t 9, .len false (.t 8), none⟩,
    ⟨.l 10, .bin .neq (.t 7) (.t 9), none⟩]) (
  .cond (.l 10) (
    .seq (.reg [
      ⟨.l 4, .mv (.c (.p (.b false))), none⟩]) (
    .ret)) (
    .skip))) (
  .seq (.seq (.reg [
    ⟨.t 11, .mv (.l 0), none⟩,
    ⟨.l 12, .len false (.t 11), none⟩,
    ⟨.l 13, .mv (.c (.p (.i .i64 0))), none⟩]) (
  .blk 0 (
    .loop (
      .seq (.reg [
        ⟨.l 14, .bin .lss (.l 13) (.l 12), none⟩]) (
      .seq (.cond (.l 14) (
        .skip) (
        .exit 0)) (
      .seq (.blk 1 (
        .seq (.reg [
          ⟨.t 15, .mv (.l 13), none⟩,
          ⟨.l 5, .mv (.t 15), none⟩]) (
        .seq (.drw [
          ⟨.t 16, .mv (.l 0), none⟩,
          ⟨.t 17, .mv (.l 5), none⟩,
          ⟨.t 18, .ixs 1 (.t 16) (.t 17), none⟩,
          ⟨.t 19, .ld false 1 (.t 18), none⟩,
          ⟨.t 20, .mv (.l 1), none⟩,
          ⟨.t 21, .mv (.l 5), none⟩,
          ⟨.t 22, .ixs 1 (.t 20) (.t 21), none⟩,
          ⟨.t 23, .ld false 1 (.t 22), none⟩] [
          ⟨.l 24, .bin .neq (.t 19) (.t 23), none⟩]) (
        .cond (.l 24) (
          .seq (.reg [
            ⟨.l 4, .mv (.c (.p (.b false))), none⟩]) (
          .ret)) (
          .skip))))) (
      .reg [
        ⟨.t 25, .bin .add (.l 13) (.c (.p (.i .i64 1))), none⟩,
        ⟨.l 13, .mv (.t 25), none⟩]))))))) (
  .seq (.reg [
    ⟨.l 4, .mv (.c (.p (.b true))), none⟩]) (
  .ret))))
theorem mc89_eq : (Try.f89.body.map (compile lv89 Try.prog 26)) = some mc89 := by kernel_rfl
def mr89 : List MR := [.t 4]
theorem mr89_eq : cRess lv89 Try.prog Try.f89.results.toList = some mr89 := by kernel_rfl
theorem call89 {args : List AV} {H : List AO} {Q : AV → List AO → Prop} (hla : args.length ≤ 26) (h : wpm (ACall Try.prog) mc89 (finK mr89 Q) ⟨argEnv 0 args, [], H⟩) : ACall Try.prog 89 args H Q :=
  acall_mc (by kernel_rfl) Try.func89 mc89_eq Try.ntmps89 (by kernel_rfl) mr89_eq hla h
def lv90 : List Nat := [0, 2, 3, 15]
def mc90 : MC :=
.seq (.reg [
    ⟨.l 2, .mv (.c (.p (.i .i64 0))), none⟩]) (
  .seq (.reg [
    ⟨.t 4, .mv (.l 0), none⟩,
    ⟨.t 5, .call 91 [.t 4], none⟩,
    ⟨.l 3, .mv (.t 5), none⟩]) (
  .seq (.seq (.reg [
    ⟨.t 6, .mv (.l 0), none⟩,
    ⟨.t 7, .nilc (.t 6), none⟩,
    ⟨.t 8, .fad 2 (.t 7), none⟩,
    ⟨.t 9, .ld false 1 (.t 8), none⟩,
    ⟨.t 10, .bin .eql (.t 9) (.c (.p (.i .i64 0))), none⟩,
    ⟨.t 11, .mv (.t 10), none⟩,
    ⟨.t 12, .mv (.l 3), some ((.t 11), true)⟩,
    ⟨.t 13, .call 124 [.t 12, .c (.p (.i .i64 0)), .c (.p (.i .i64 200000))], some ((.t 11), true)⟩,
    ⟨.t 14, .un .not (.t 13), some ((.t 11), true)⟩,
    ⟨.l 15, .pick (.t 11) (.t 14) (.c (.p (.b false))), none⟩]) (
  .cond (.l 15) (
    .reg [
      ⟨.t 16, .mv (.l 0), none⟩,
      ⟨.t 17, .call 140 [.t 16, .c (.p (.i .i64 3))], none⟩]) (
    .skip))) (
  .seq (.reg [
    ⟨.t 18, .mv (.l 3), none⟩,
    ⟨.l 2, .mv (.t 18), none⟩]) (
  .ret))))
theorem mc90_eq : (Try.f90.body.map (compile lv90 Try.prog 19)) = some mc90 := by kernel_rfl
def mr90 : List MR := [.t 2]
theorem mr90_eq : cRess lv90 Try.prog Try.f90.results.toList = some mr90 := by kernel_rfl
theorem call90 {args : List AV} {H : List AO} {Q : AV → List AO → Prop} (hla : args.length ≤ 19) (h : wpm (ACall Try.prog) mc90 (finK mr90 Q) ⟨argEnv 0 args, [], H⟩) : ACall Try.prog 90 args H Q :=
  acall_mc (by kernel_rfl) Try.func90 mc90_eq Try.ntmps90 (by kernel_rfl) mr90_eq hla h
def lv91 : List Nat := [0, 2, 3, 4, 5, 6, 11, 26, 39, 58]
def mc91 : MC :=
.seq (.reg [
    ⟨.l 2, .mv (.c (.p (.i .i64 0))), none⟩]) (
  .seq (.seq (.reg [
    ⟨.t 7, .mv (.l 0), none⟩,
    ⟨.t 8, .nilc (.t 7), none⟩,
    ⟨.t 9, .fad 2 (.t 8), none⟩,
    ⟨.t 10, .ld false 1 (.t 9), none⟩,
    ⟨.l 11, .bin .neq (.t 10) (.c (.p (.i .i64 0))), none⟩]) (
  .cond (.l 11) (
    .seq (.reg [
      ⟨.l 2, .mv (.c (.p (.i .i64 0))), none⟩]) (
    .ret)) (
    .skip))) (
  .seq (.drw [
    ⟨.t 13, .mv (.l 0), none⟩,
    ⟨.t 14, .nilc (.t 13), none⟩,
    ⟨.t 15, .fad 0 (.t 14), none⟩,
    ⟨.t 16, .ld false 1 (.t 15), none⟩,
    ⟨.t 17, .mv (.l 0), none⟩,
    ⟨.t 18, .nilc (.t 17), none⟩,
    ⟨.t 19, .fad 1 (.t 18), none⟩,
    ⟨.t 20, .ld false 1 (.t 19), none⟩,
    ⟨.t 21, .call 141 [.t 16, .t 20], none⟩,
    ⟨.t 12, .mv (.t 21), none⟩,
    ⟨.t 22, .ext (.t 12) 0, none⟩,
    ⟨.t 23, .ext (.t 12) 1, none⟩,
    ⟨.t 24, .ext (.t 12) 2, none⟩,
    ⟨.l 3, .mv (.t 22), none⟩,
    ⟨.l 4, .mv (.t 23), none⟩] [
    ⟨.l 5, .mv (.t 24), none⟩]) (
  .seq (.seq (.reg [
    ⟨.t 25, .mv (.l 5), none⟩,
    ⟨.l 26, .un .not (.t 25), none⟩]) (
  .cond (.l 26) (
    .seq (.reg [
      ⟨.t 27, .mv (.l 0), none⟩,
      ⟨.t 28, .nilc (.t 27), none⟩,
      ⟨.t 29, .fad 1 (.t 28), none⟩,
      ⟨.t 30, .ld false 1 (.t 29), none⟩,
      ⟨.l 6, .mv (.t 30), none⟩]) (
    .blk 0 (
      .loop (
        .seq (.blk 1 (
          .seq (.seq (.reg [
            ⟨.t 33, .mv (.l 6), none⟩,
            ⟨.t 34, .mv (.l 0), none⟩,
            ⟨.t 35, .nilc (.t 34), none⟩,
            ⟨.t 36, .fad 0 (.t 35), none⟩,
            ⟨.t 37, .ld false 1 (.t 36), none⟩,
            ⟨.t 38, .len false (.t 37), none⟩,
            ⟨.l 39, .bin .eql (.t 33) (.t 38), none⟩]) (
          .cond (.l 39) (
            .seq (.reg [
              ⟨.t 40, .mv (.l 0), none⟩,
              ⟨.t 41, .call 140 [.t 40, .c (.p (.i .i64 2))], none⟩]) (
            .seq (.reg [
              ⟨.l 2, .mv (.c (.p (.i .i64 0))), none⟩]) (
            .ret))) (
            .skip))) (
          .seq (.reg [
            ⟨.t 42, .mv (.l 0), none⟩,
            ⟨.t 43, .nilc (.t 42), none⟩,
            ⟨.t 44, .fad 0 (.t 43), none⟩,
            ⟨.t 45, .ld false 1 (.t 44), none⟩,
            ⟨.t 46, .mv (.l 6), none⟩,
            ⟨.t 47, .ixs 1 (.t 45) (.t 46), none⟩,
            ⟨.t 48, .ld false 1 (.t 47), none⟩,
            ⟨.t 49, .bin .lss (.t 48) (.c (.p (.i .u8 128))), none⟩,
            ⟨.t 50, .mv (.t 49), none⟩,
            ⟨.t 51, .mv (.l 6), some ((.t 50), false)⟩,
            ⟨.t 52, .mv (.l 0), some ((.t 50), false)⟩,
            ⟨.t 53, .nilc (.t 52), some ((.t 50), false)⟩,
            ⟨.t 54, .fad 1 (.t 53), some ((.t 50), false)⟩,
            ⟨.t 55, .ld false 1 (.t 54), some ((.t 50), false)⟩,
            ⟨.t 56, .bin .add (.t 55) (.c (.p (.i .i64 9))), some ((.t 50), false)⟩,
            ⟨.t 57, .bin .eql (.t 51) (.t 56), some ((.t 50), false)⟩,
            ⟨.l 58, .pick (.t 50) (.c (.p (.b true))) (.t 57), none⟩]) (
          .cond (.l 58) (
            .seq (.reg [
              ⟨.t 59, .mv (.l 0), none⟩,
              ⟨.t 60, .call 140 [.t 59, .c (.p (.i .i64 3))], none⟩]) (
            .seq (.reg [
              ⟨.l 2, .mv (.c (.p (.i .i64 0))), none⟩]) (
            .ret))) (
            .skip))))) (
        .reg [
          ⟨.t 31, .mv (.l 6), none⟩,
          ⟨.t 32, .bin .add (.t 31) (.c (.p (.i .i64 1))), none⟩,
          ⟨.l 6, .mv (.t 32), none⟩]))))) (
    .skip))) (
  .seq (.reg [
    ⟨.t 61, .mv (.l 0), none⟩,
    ⟨.t 62, .mv (.l 4), none⟩,
    ⟨.t 63, .nilc (.t 61), none⟩,
    ⟨.t 64, .fad 1 (.t 63), none⟩,
    ⟨.no, .sto 1 (.t 64) (.t 62), none⟩]) (
  .seq (.reg [
    ⟨.t 65, .mv (.l 3), none⟩,
    ⟨.l 2, .mv (.t 65), none⟩]) (
  .ret))))))
theorem mc91_eq : (Try.f91.body.map (compile lv91 Try.prog 66)) = some mc91 := by kernel_rfl
def mr91 : List MR := [.t 2]
theorem mr91_eq : cRess lv91 Try.prog Try.f91.results.toList = some mr91 := by kernel_rfl
theorem call91 {args : List AV} {H : List AO} {Q : AV → List AO → Prop} (hla : args.length ≤ 66) (h : wpm (ACall Try.prog) mc91 (finK mr91 Q) ⟨argEnv 0 args, [], H⟩) : ACall Try.prog 91 args H Q :=
  acall_mc (by kernel_rfl) Try.func91 mc91_eq Try.ntmps91 (by kernel_rfl) mr91_eq hla h
def lv92 : List Nat := [0, 2, 3, 4, 5, 36]
def mc92 : MC :=
.seq (.reg [
    ⟨.l 2, .alloc [.p (.i .i64 0), .p (.i .i64 0), .p (.i .i64 0), .p (.i .i64 0), .p (.i .i64 0), .p (.s [])], none⟩]) (
  .seq (.reg [
    ⟨.t 6, .mv (.l 0), none⟩,
    ⟨.t 7, .call 142 [.t 6, .c (.p (.i .i64 3))], none⟩,
    ⟨.l 3, .mv (.t 7), none⟩]) (
  .seq (.drw [
    ⟨.t 8, .mv (.l 3), none⟩,
    ⟨.t 9, .ixs 1 (.t 8) (.c (.p (.i .i64 0))), none⟩,
    ⟨.t 10, .ld false 1 (.t 9), none⟩,
    ⟨.t 11, .conv .i64 (.t 10), none⟩,
    ⟨.t 12, .mv (.l 3), none⟩,
    ⟨.t 13, .ixs 1 (.t 12) (.c (.p (.i .i64 1))), none⟩,
    ⟨.t 14, .ld false 1 (.t 13), none⟩,
    ⟨.t 15, .bin .quo (.t 14) (.c (.p (.i .u8 16))), none⟩,
    ⟨.t 16, .conv .i64 (.t 15), none⟩,
    ⟨.t 17, .mv (.l 3), none⟩,
    ⟨.t 18, .ixs 1 (.t 17) (.c (.p (.i .i64 1))), none⟩,
    ⟨.t 19, .ld false 1 (.t 18), none⟩,
    ⟨.t 20, .bin .rem (.t 19) (.c (.p (.i .u8 16))), none⟩,
    ⟨.t 21, .conv .i64 (.t 20), none⟩,
    ⟨.t 22, .mv (.l 3), none⟩,
    ⟨.t 23, .ixs 1 (.t 22) (.c (.p (.i .i64 2))), none⟩,
    ⟨.t 24, .ld false 1 (.t 23), none⟩,
    ⟨.t 25, .conv .i64 (.t 24), none⟩,
    ⟨.t 26, .build [.p (.i .i64 0), .p (.i .i64 0), .p (.i .i64 0), .p (.i .i64 0), .p (.i .i64 0), .p (.s [])] [(0, 1, (.t 11)), (1, 1, (.t 16)), (2, 1, (.t 21)), (3, 1, (.t 25))], none⟩,
    ⟨.l 4, .alloc [.p (.i .i64 0), .p (.i .i64 0), .p (.i .i64 0), .p (.i .i64 0), .p (.i .i64 0), .p (.s [])], none⟩] [
    ⟨.no, .sto 6 (.l 4) (.t 26), none⟩]) (
  .seq (.reg [
    ⟨.t 27, .mv (.l 0), none⟩,
    ⟨.t 28, .call 91 [.t 27], none⟩,
    ⟨.t 29, .fad 4 (.l 4), none⟩,
    ⟨.no, .sto 1 (.t 29) (.t 28), none⟩]) (
  .seq (.reg [
    ⟨.t 30, .mv (.l 0), none⟩,
    ⟨.t 31, .call 90 [.t 30], none⟩,
    ⟨.l 5, .mv (.t 31), none⟩]) (
  .seq (.seq (.reg [
    ⟨.t 32, .mv (.l 0), none⟩,
    ⟨.t 33, .nilc (.t 32), none⟩,
    ⟨.t 34, .fad 2 (.t 33), none⟩,
    ⟨.t 35, .ld false 1 (.t 34), none⟩,
    ⟨.l 36, .bin .eql (.t 35) (.c (.p (.i .i64 0))), none⟩]) (
  .cond (.l 36) (
    .reg [
      ⟨.t 37, .mv (.l 0), none⟩,
      ⟨.t 38, .mv (.l 5), none⟩,
      ⟨.t 39, .call 142 [.t 37, .t 38], none⟩,
      ⟨.t 40, .b2s (.t 39), none⟩,
      ⟨.t 41, .fad 5 (.l 4), none⟩,
      ⟨.no, .sto 1 (.t 41) (.t 40), none⟩]) (
    .skip))) (
  .seq (.reg [
    ⟨.t 42, .ld true 6 (.l 4), none⟩,
    ⟨.no, .sto 6 (.l 2) (.t 42), none⟩]) (
  .ret)))))))
theorem mc92_eq : (Try.f92.body.map (compile lv92 Try.prog 43)) = some mc92 := by kernel_rfl
def mr92 : List MR := [.cell true 6 2]
theorem mr92_eq : cRess lv92 Try.prog Try.f92.results.toList = some mr92 := by kernel_rfl
theorem call92 {args : List AV} {H : List AO} {Q : AV → List AO → Prop} (hla : args.length ≤ 43) (h : wpm (ACall Try.prog) mc92 (finK mr92 Q) ⟨argEnv 0 args, [], H⟩) : ACall Try.prog 92 args H Q :=
  acall_mc (by kernel_rfl) Try.func92 mc92_eq Try.ntmps92 (by kernel_rfl) mr92_eq hla h
def lv138 : List Nat := [0, 1, 4, 5, 6, 7, 8, 9, 15, 25, 48, 54, 68]
def mc138 : MC :=
.seq (.reg [
    ⟨.l 4, .mv (.c (.p (.i .i64 0))), none⟩,
    ⟨.l 5, .mv (.c (.p (.i .i64 0))), none⟩,
    ⟨.l 6, .mv (.c (.p (.b false))), none⟩]) (
  .seq (.seq (.reg [
    ⟨.t 10, .mv (.l 1), none⟩,
    ⟨.t 11, .mv (.l 0), none⟩,
    ⟨.t 12, .len false (.t 11), none⟩,
    ⟨.t 13, .bin .sub (.t 12) (.c (.p (.i .i64 1))), none⟩,
    ⟨.t 14, .call 122 [.t 10, .c (.p (.i .i64 0)), .t 13], none⟩,
    ⟨.l 15, .un .not (.t 14), none⟩]) (
  .cond (.l 15) (
    .seq (.reg [
      ⟨.l 4, .mv (.c (.p (.i .i64 0))), none⟩,
      ⟨.l 5, .mv (.c (.p (.i .i64 0))), none⟩,
      ⟨.l 6, .mv (.c (.p (.b false))), none⟩]) (
    .ret)) (
    .skip))) (
  .seq (.reg [
    ⟨.l 7, .mv (.c (.p (.i .u64 0))), none⟩]) (
  .seq (.seq (.reg [
    ⟨.l 8, .mv (.c (.p (.i .i64 0))), none⟩]) (
  .blk 0 (
    .loop (
      .seq (.seq (.reg [
        ⟨.t 16, .mv (.l 8), none⟩,
        ⟨.t 17, .bin .lss (.t 16) (.c (.p (.i .i64 10))), none⟩,
        ⟨.t 18, .mv (.t 17), none⟩,
        ⟨.t 19, .mv (.l 1), some ((.t 18), true)⟩,
        ⟨.t 20, .mv (.l 8), some ((.t 18), true)⟩,
        ⟨.t 21, .bin .add (.t 19) (.t 20), some ((.t 18), true)⟩,
        ⟨.t 22, .mv (.l 0), some ((.t 18), true)⟩,
        ⟨.t 23, .len false (.t 22), some ((.t 18), true)⟩,
        ⟨.t 24, .bin .lss (.t 21) (.t 23), some ((.t 18), true)⟩,
        ⟨.l 25, .pick (.t 18) (.t 24) (.c (.p (.b false))), none⟩]) (
      .cond (.l 25) (
        .skip) (
        .exit 0))) (
      .seq (.blk 1 (
        .seq (.reg [
          ⟨.t 28, .mv (.l 7), none⟩,
          ⟨.t 29, .mv (.l 0), none⟩,
          ⟨.t 30, .mv (.l 1), none⟩,
          ⟨.t 31, .mv (.l 8), none⟩,
          ⟨.t 32, .bin .add (.t 30) (.t 31), none⟩,
          ⟨.t 33, .ixs 1 (.t 29) (.t 32), none⟩,
          ⟨.t 34, .ld false 1 (.t 33), none⟩,
          ⟨.t 35, .bin .and (.t 34) (.c (.p (.i .u8 127))), none⟩,
          ⟨.t 36, .conv .u64 (.t 35), none⟩,
          ⟨.t 37, .mv (.l 8), none⟩,
          ⟨.t 38, .bin .mul (.c (.p (.i .i64 7))) (.t 37), none⟩,
          ⟨.t 39, .conv .u64 (.t 38), none⟩,
          ⟨.t 40, .bin .shl (.t 36) (.t 39), none⟩,
          ⟨.t 41, .bin .add (.t 28) (.t 40), none⟩,
          ⟨.l 7, .mv (.t 41), none⟩]) (
        .seq (.reg [
          ⟨.t 42, .mv (.l 0), none⟩,
          ⟨.t 43, .mv (.l 1), none⟩,
          ⟨.t 44, .mv (.l 8), none⟩,
          ⟨.t 45, .bin .add (.t 43) (.t 44), none⟩,
          ⟨.t 46, .ixs 1 (.t 42) (.t 45), none⟩,
          ⟨.t 47, .ld false 1 (.t 46), none⟩,
          ⟨.l 48, .bin .lss (.t 47) (.c (.p (.i .u8 128))), none⟩]) (
        .cond (.l 48) (
          .seq (.reg [
            ⟨.t 49, .mv (.l 7), none⟩,
            ⟨.t 50, .bin .shr (.t 49) (.c (.p (.i .u64 1))), none⟩,
            ⟨.t 51, .conv .i64 (.t 50), none⟩,
            ⟨.l 9, .mv (.t 51), none⟩]) (
          .seq (.seq (.reg [
            ⟨.t 52, .mv (.l 7), none⟩,
            ⟨.t 53, .bin .and (.t 52) (.c (.p (.i .u64 1))), none⟩,
            ⟨.l 54, .bin .eql (.t 53) (.c (.p (.i .u64 1))), none⟩]) (
          .cond (.l 54) (
            .reg [
              ⟨.t 55, .mv (.l 9), none⟩,
              ⟨.t 56, .un .neg (.t 55), none⟩,
              ⟨.t 57, .bin .sub (.t 56) (.c (.p (.i .i64 1))), none⟩,
              ⟨.l 9, .mv (.t 57), none⟩]) (
            .skip))) (
          .seq (.seq (.drw [
            ⟨.t 58, .mv (.l 9), none⟩,
            ⟨.t 59, .call 71 [.t 58], none⟩,
            ⟨.t 60, .mv (.l 0), none⟩,
            ⟨.t 61, .mv (.l 1), none⟩,
            ⟨.t 62, .mv (.l 1), none⟩,
            ⟨.t 63, .mv (.l 8), none⟩,
            ⟨.t 64, .bin .add (.t 62) (.t 63), none⟩,
            ⟨.t 65, .bin .add (.t 64) (.c (.p (.i .i64 1))), none⟩,
            ⟨.t 66, .slc (some 1) (.t 60) (some (.t 61)) (some (.t 65)), none⟩] [
            ⟨.t 67, .call 88 [.t 59, .t 66], none⟩,
            ⟨.l 68, .un .not (.t 67), none⟩]) (
          .cond (.l 68) (
            .seq (.reg [
              ⟨.l 4, .mv (.c (.p (.i .i64 0))), none⟩,
              ⟨.l 5, .mv (.c (.p (.i .i64 0))), none⟩,
              ⟨.l 6, .mv (.c (.p (.b false))), none⟩]) (
            .ret)) (
            .skip))) (
          .seq (.reg [
            ⟨.t 69, .mv (.l 9), none⟩,
            ⟨.t 70, .mv (.l 1), none⟩,
            ⟨.t 71, .mv (.l 8), none⟩,
            ⟨.t 72, .bin .add (.t 70) (.t 71), none⟩,
            ⟨.t 73, .bin .add (.t 72) (.c (.p (.i .i64 1))), none⟩,
            ⟨.l 4, .mv (.t 69), none⟩,
            ⟨.l 5, .mv (.t 73), none⟩,
            ⟨.l 6, .mv (.c (.p (.b true))), none⟩]) (
          .ret))))) (
          .skip))))) (
      .reg [
        ⟨.t 26, .mv (.l 8), none⟩,
        ⟨.t 27, .bin .add (.t 26) (.c (.p (.i .i64 1))), none⟩,
        ⟨.l 8, .mv (.t 27), none⟩])))))) (
  .seq (.reg [
    ⟨.l 4, .mv (.c (.p (.i .i64 0))), none⟩,
    ⟨.l 5, .mv (.c (.p (.i .i64 0))), none⟩,
    ⟨.l 6, .mv (.c (.p (.b false))), none⟩]) (
  .ret)))))
theorem mc138_eq : (Try.f138.body.map (compile lv138 Try.prog 74)) = some mc138 := by kernel_rfl
def mr138 : List MR := [.t 4, .t 5, .t 6]
theorem mr138_eq : cRess lv138 Try.prog Try.f138.results.toList = some mr138 := by kernel_rfl
theorem call138 {args : List AV} {H : List AO} {Q : AV → List AO → Prop} (hla : args.length ≤ 74) (h : wpm (ACall Try.prog) mc138 (finK mr138 Q) ⟨argEnv 0 args, [], H⟩) : ACall Try.prog 138 args H Q :=
  acall_mc (by kernel_rfl) Try.func138 mc138_eq Try.ntmps138 (by kernel_rfl) mr138_eq hla h
def lv139 : List Nat := [0, 2, 19, 27]
def mc139 : MC :=
.seq (.reg [
    ⟨.l 2, .mv (.c (.p (.i .i64 0))), none⟩]) (
  .seq (.seq (.drw [
    ⟨.t 3, .mv (.l 0), none⟩,
    ⟨.t 4, .nilc (.t 3), none⟩,
    ⟨.t 5, .fad 2 (.t 4), none⟩,
    ⟨.t 6, .ld false 1 (.t 5), none⟩,
    ⟨.t 7, .bin .eql (.t 6) (.c (.p (.i .i64 0))), none⟩,
    ⟨.t 8, .mv (.t 7), none⟩,
    ⟨.t 9, .mv (.l 0), some ((.t 8), true)⟩,
    ⟨.t 10, .nilc (.t 9), some ((.t 8), true)⟩,
    ⟨.t 11, .fad 1 (.t 10), some ((.t 8), true)⟩,
    ⟨.t 12, .ld false 1 (.t 11), some ((.t 8), true)⟩,
    ⟨.t 13, .mv (.l 0), some ((.t 8), true)⟩,
    ⟨.t 14, .nilc (.t 13), some ((.t 8), true)⟩,
    ⟨.t 15, .fad 0 (.t 14), some ((.t 8), true)⟩,
    ⟨.t 16, .ld false 1 (.t 15), some ((.t 8), true)⟩,
    ⟨.t 17, .lenq false (.t 16), some ((.t 8), true)⟩] [
    ⟨.t 18, .bin .geq (.t 12) (.t 17), some ((.t 8), true)⟩,
    ⟨.l 19, .pick (.t 8) (.t 18) (.c (.p (.b false))), none⟩]) (
  .cond (.l 19) (
    .reg [
      ⟨.t 20, .mv (.l 0), none⟩,
      ⟨.t 21, .nilc (.t 20), none⟩,
      ⟨.t 22, .fad 2 (.t 21), none⟩,
      ⟨.no, .sto 1 (.t 22) (.c (.p (.i .i64 2))), none⟩]) (
    .skip))) (
  .seq (.seq (.reg [
    ⟨.t 23, .mv (.l 0), none⟩,
    ⟨.t 24, .nilc (.t 23), none⟩,
    ⟨.t 25, .fad 2 (.t 24), none⟩,
    ⟨.t 26, .ld false 1 (.t 25), none⟩,
    ⟨.l 27, .bin .neq (.t 26) (.c (.p (.i .i64 0))), none⟩]) (
  .cond (.l 27) (
    .seq (.reg [
      ⟨.l 2, .mv (.c (.p (.i .i64 0))), none⟩]) (
    .ret)) (
    .skip))) (
  .seq (.reg [
    ⟨.t 28, .mv (.l 0), none⟩,
    ⟨.t 29, .mv (.l 0), none⟩,
    ⟨.t 30, .nilc (.t 29), none⟩,
    ⟨.t 31, .fad 1 (.t 30), none⟩,
    ⟨.t 32, .ld false 1 (.t 31), none⟩,
    ⟨.t 33, .bin .add (.t 32) (.c (.p (.i .i64 1))), none⟩,
    ⟨.t 34, .nilc (.t 28), none⟩,
    ⟨.t 35, .fad 1 (.t 34), none⟩,
    ⟨.no, .sto 1 (.t 35) (.t 33), none⟩]) (
  .seq (.drw [
    ⟨.t 36, .mv (.l 0), none⟩,
    ⟨.t 37, .nilc (.t 36), none⟩,
    ⟨.t 38, .fad 0 (.t 37), none⟩,
    ⟨.t 39, .ld false 1 (.t 38), none⟩,
    ⟨.t 40, .mv (.l 0), none⟩,
    ⟨.t 41, .nilc (.t 40), none⟩,
    ⟨.t 42, .fad 1 (.t 41), none⟩,
    ⟨.t 43, .ld false 1 (.t 42), none⟩,
    ⟨.t 44, .bin .sub (.t 43) (.c (.p (.i .i64 1))), none⟩] [
    ⟨.t 45, .ixs 1 (.t 39) (.t 44), none⟩,
    ⟨.t 46, .ld false 1 (.t 45), none⟩,
    ⟨.t 47, .conv .i64 (.t 46), none⟩,
    ⟨.l 2, .mv (.t 47), none⟩]) (
  .ret)))))
theorem mc139_eq : (Try.f139.body.map (compile lv139 Try.prog 48)) = some mc139 := by kernel_rfl
def mr139 : List MR := [.t 2]
theorem mr139_eq : cRess lv139 Try.prog Try.f139.results.toList = some mr139 := by kernel_rfl
theorem call139 {args : List AV} {H : List AO} {Q : AV → List AO → Prop} (hla : args.length ≤ 48) (h : wpm (ACall Try.prog) mc139 (finK mr139 Q) ⟨argEnv 0 args, [], H⟩) : ACall Try.prog 139 args H Q :=
  acall_mc (by kernel_rfl) Try.func139 mc139_eq Try.ntmps139 (by kernel_rfl) mr139_eq hla h
def lv140 : List Nat := [0, 1, 8]
def mc140 : MC :=
.seq (.reg [
    ⟨.t 4, .mv (.l 0), none⟩,
    ⟨.t 5, .nilc (.t 4), none⟩,
    ⟨.t 6, .fad 2 (.t 5), none⟩,
    ⟨.t 7, .ld false 1 (.t 6), none⟩,
    ⟨.l 8, .bin .eql (.t 7) (.c (.p (.i .i64 0))), none⟩]) (
  .cond (.l 8) (
    .reg [
      ⟨.t 9, .mv (.l 0), none⟩,
      ⟨.t 10, .mv (.l 1), none⟩,
      ⟨.t 11, .nilc (.t 9), none⟩,
      ⟨.t 12, .fad 2 (.t 11), none⟩,
      ⟨.no, .sto 1 (.t 12) (.t 10), none⟩]) (
    .skip))
theorem mc140_eq : (Try.f140.body.map (compile lv140 Try.prog 13)) = some mc140 := by kernel_rfl
def mr140 : List MR := []
theorem mr140_eq : cRess lv140 Try.prog Try.f140.results.toList = some mr140 := by kernel_rfl
theorem call140 {args : List AV} {H : List AO} {Q : AV → List AO → Prop} (hla : args.length ≤ 13) (h : wpm (ACall Try.prog) mc140 (finK mr140 Q) ⟨argEnv 0 args, [], H⟩) : ACall Try.prog 140 args H Q :=
  acall_mc (by kernel_rfl) Try.func140 mc140_eq Try.ntmps140 (by kernel_rfl) mr140_eq hla h
def lv141 : List Nat := [0, 1, 4, 5, 6, 7, 8, 9, 15, 25, 43, 57]
def mc141 : MC :=
.seq (.reg [
    ⟨.l 4, .mv (.c (.p (.i .i64 0))), none⟩,
    ⟨.l 5, .mv (.c (.p (.i .i64 0))), none⟩,
    ⟨.l 6, .mv (.c (.p (.b false))), none⟩]) (
  .seq (.seq (.reg [
    ⟨.t 10, .mv (.l 1), none⟩,
    ⟨.t 11, .mv (.l 0), none⟩,
    ⟨.t 12, .len false (.t 11), none⟩,
    ⟨.t 13, .bin .sub (.t 12) (.c (.p (.i .i64 1))), none⟩,
    ⟨.t 14, .call 124 [.t 10, .c (.p (.i .i64 0)), .t 13], none⟩,
    ⟨.l 15, .un .not (.t 14), none⟩]) (
  .cond (.l 15) (
    .seq (.reg [
      ⟨.l 4, .mv (.c (.p (.i .i64 0))), none⟩,
      ⟨.l 5, .mv (.c (.p (.i .i64 0))), none⟩,
      ⟨.l 6, .mv (.c (.p (.b false))), none⟩]) (
    .ret)) (
    .skip))) (
  .seq (.reg [
    ⟨.l 7, .mv (.c (.p (.i .u64 0))), none⟩]) (
  .seq (.seq (.reg [
    ⟨.l 8, .mv (.c (.p (.i .i64 0))), none⟩]) (
  .blk 0 (
    .loop (
      .seq (.seq (.reg [
        ⟨.t 16, .mv (.l 8), none⟩,
        ⟨.t 17, .bin .lss (.t 16) (.c (.p (.i .i64 10))), none⟩,
        ⟨.t 18, .mv (.t 17), none⟩,
        ⟨.t 19, .mv (.l 1), some ((.t 18), true)⟩,
        ⟨.t 20, .mv (.l 8), some ((.t 18), true)⟩,
        ⟨.t 21, .bin .add (.t 19) (.t 20), some ((.t 18), true)⟩,
        ⟨.t 22, .mv (.l 0), some ((.t 18), true)⟩,
        ⟨.t 23, .len false (.t 22), some ((.t 18), true)⟩,
        ⟨.t 24, .bin .lss (.t 21) (.t 23), some ((.t 18), true)⟩,
        ⟨.l 25, .pick (.t 18) (.t 24) (.c (.p (.b false))), none⟩]) (
      .cond (.l 25) (
        .skip) (
        .exit 0))) (
      .seq (.blk 1 (
        .seq (.reg [
          ⟨.t 28, .mv (.l 0), none⟩,
          ⟨.t 29, .mv (.l 1), none⟩,
          ⟨.t 30, .mv (.l 8), none⟩,
          ⟨.t 31, .bin .add (.t 29) (.t 30), none⟩,
          ⟨.t 32, .ixs 1 (.t 28) (.t 31), none⟩,
          ⟨.t 33, .ld false 1 (.t 32), none⟩,
          ⟨.l 9, .mv (.t 33), none⟩]) (
        .seq (.reg [
          ⟨.t 34, .mv (.l 7), none⟩,
          ⟨.t 35, .mv (.l 9), none⟩,
          ⟨.t 36, .bin .and (.t 35) (.c (.p (.i .u8 127))), none⟩,
          ⟨.t 37, .conv .u64 (.t 36), none⟩,
          ⟨.t 38, .mv (.l 8), none⟩,
          ⟨.t 39, .bin .mul (.c (.p (.i .i64 7))) (.t 38), none⟩,
          ⟨.t 40, .bin .shl (.t 37) (.t 39), none⟩,
          ⟨.t 41, .bin .or (.t 34) (.t 40), none⟩,
          ⟨.l 7, .mv (.t 41), none⟩]) (
        .seq (.seq (.reg [
          ⟨.t 42, .mv (.l 9), none⟩,
          ⟨.l 43, .bin .gtr (.t 42) (.c (.p (.i .u8 127))), none⟩]) (
        .cond (.l 43) (
          .exit 1) (
          .skip))) (
        .seq (.seq (.reg [
          ⟨.t 44, .mv (.l 8), none⟩,
          ⟨.t 45, .bin .gtr (.t 44) (.c (.p (.i .i64 0))), none⟩,
          ⟨.t 46, .mv (.t 45), none⟩,
          ⟨.t 47, .mv (.l 9), some ((.t 46), true)⟩,
          ⟨.t 48, .bin .eql (.t 47) (.c (.p (.i .u8 0))), some ((.t 46), true)⟩,
          ⟨.t 49, .pick (.t 46) (.t 48) (.c (.p (.b false))), none⟩,
          ⟨.t 50, .mv (.t 49), none⟩,
          ⟨.t 51, .mv (.l 8), some ((.t 50), false)⟩,
          ⟨.t 52, .bin .eql (.t 51) (.c (.p (.i .i64 9))), some ((.t 50), false)⟩,
          ⟨.t 53, .mv (.t 52), some ((.t 50), false)⟩,
          ⟨.t 54, .mv (.l 9), some ((.t 53), true)⟩,
          ⟨.t 55, .bin .gtr (.t 54) (.c (.p (.i .u8 1))), some ((.t 53), true)⟩,
          ⟨.t 56, .pick (.t 53) (.t 55) (.c (.p (.b false))), some ((.t 50), false)⟩,
          ⟨.l 57, .pick (.t 50) (.c (.p (.b true))) (.t 56), none⟩]) (
        .cond (.l 57) (
          .seq (.reg [
            ⟨.l 4, .mv (.c (.p (.i .i64 0))), none⟩,
            ⟨.l 5, .mv (.c (.p (.i .i64 0))), none⟩,
            ⟨.l 6, .mv (.c (.p (.b false))), none⟩]) (
          .ret)) (
          .skip))) (
        .seq (.reg [
          ⟨.t 58, .mv (.l 7), none⟩,
          ⟨.t 59, .bin .shr (.t 58) (.c (.p (.i .u64 1))), none⟩,
          ⟨.t 60, .conv .i64 (.t 59), none⟩,
          ⟨.t 61, .mv (.l 7), none⟩,
          ⟨.t 62, .bin .and (.t 61) (.c (.p (.i .u64 1))), none⟩,
          ⟨.t 63, .conv .i64 (.t 62), none⟩,
          ⟨.t 64, .un .neg (.t 63), none⟩,
          ⟨.t 65, .bin .xor (.t 60) (.t 64), none⟩,
          ⟨.t 66, .mv (.l 1), none⟩,
          ⟨.t 67, .mv (.l 8), none⟩,
          ⟨.t 68, .bin .add (.t 66) (.t 67), none⟩,
          ⟨.t 69, .bin .add (.t 68) (.c (.p (.i .i64 1))), none⟩,
          ⟨.l 4, .mv (.t 65), none⟩,
          ⟨.l 5, .mv (.t 69), none⟩,
          ⟨.l 6, .mv (.c (.p (.b true))), none⟩]) (
        .ret))))))) (
      .reg [
        ⟨.t 26, .mv (.l 8), none⟩,
        ⟨.t 27, .bin .add (.t 26) (.c (.p (.i .i64 1))), none⟩,
        ⟨.l 8, .mv (.t 27), none⟩])))))) (
  .seq (.reg [
    ⟨.l 4, .mv (.c (.p (.i .i64 0))), none⟩,
    ⟨.l 5, .mv (.c (.p (.i .i64 0))), none⟩,
    ⟨.l 6, .mv (.c (.p (.b false))), none⟩]) (
  .ret)))))
theorem mc141_eq : (Try.f141.body.map (compile lv141 Try.prog 70)) = some mc141 := by kernel_rfl
def mr141 : List MR := [.t 4, .t 5, .t 6]
theorem mr141_eq : cRess lv141 Try.prog Try.f141.results.toList = some mr141 := by kernel_rfl
theorem call141 {args : List AV} {H : List AO} {Q : AV → List AO → Prop} (hla : args.length ≤ 70) (h : wpm (ACall Try.prog) mc141 (finK mr141 Q) ⟨argEnv 0 args, [], H⟩) : ACall Try.prog 141 args H Q :=
  acall_mc (by kernel_rfl) Try.func141 mc141_eq Try.ntmps141 (by kernel_rfl) mr141_eq hla h
def lv142 : List Nat := [0, 1, 4, 23, 30]
def mc142 : MC :=
.seq (.reg [
    ⟨.l 4, .mv (.c (.p (.nl))), none⟩]) (
  .seq (.seq (.drw [
    ⟨.t 5, .mv (.l 0), none⟩,
    ⟨.t 6, .nilc (.t 5), none⟩,
    ⟨.t 7, .fad 2 (.t 6), none⟩,
    ⟨.t 8, .ld false 1 (.t 7), none⟩,
    ⟨.t 9, .bin .eql (.t 8) (.c (.p (.i .i64 0))), none⟩,
    ⟨.t 10, .mv (.t 9), none⟩,
    ⟨.t 11, .mv (.l 1), some ((.t 10), true)⟩,
    ⟨.t 12, .mv (.l 0), some ((.t 10), true)⟩,
    ⟨.t 13, .nilc (.t 12), some ((.t 10), true)⟩,
    ⟨.t 14, .fad 0 (.t 13), some ((.t 10), true)⟩,
    ⟨.t 15, .ld false 1 (.t 14), some ((.t 10), true)⟩,
    ⟨.t 16, .lenq false (.t 15), some ((.t 10), true)⟩,
    ⟨.t 17, .mv (.l 0), some ((.t 10), true)⟩,
    ⟨.t 18, .nilc (.t 17), some ((.t 10), true)⟩,
    ⟨.t 19, .fad 1 (.t 18), some ((.t 10), true)⟩,
    ⟨.t 20, .ld false 1 (.t 19), some ((.t 10), true)⟩,
    ⟨.t 21, .bin .sub (.t 16) (.t 20), some ((.t 10), true)⟩] [
    ⟨.t 22, .bin .gtr (.t 11) (.t 21), some ((.t 10), true)⟩,
    ⟨.l 23, .pick (.t 10) (.t 22) (.c (.p (.b false))), none⟩]) (
  .cond (.l 23) (
    .reg [
      ⟨.t 24, .mv (.l 0), none⟩,
      ⟨.t 25, .call 140 [.t 24, .c (.p (.i .i64 2))], none⟩]) (
    .skip))) (
  .seq (.seq (.reg [
    ⟨.t 26, .mv (.l 0), none⟩,
    ⟨.t 27, .nilc (.t 26), none⟩,
    ⟨.t 28, .fad 2 (.t 27), none⟩,
    ⟨.t 29, .ld false 1 (.t 28), none⟩,
    ⟨.l 30, .bin .neq (.t 29) (.c (.p (.i .i64 0))), none⟩]) (
  .cond (.l 30) (
    .seq (.reg [
      ⟨.t 31, .mv (.l 1), none⟩,
      ⟨.t 32, .mnx false (.t 31) (.c (.p (.i .i64 3))), none⟩,
      ⟨.t 33, .mks 1 1 [.p (.i .u8 0)] (.t 32) (.t 32), none⟩,
      ⟨.l 4, .mv (.t 33), none⟩]) (
    .ret)) (
    .skip))) (
  .seq (.reg [
    ⟨.t 34, .mv (.l 0), none⟩,
    ⟨.t 35, .nilc (.t 34), none⟩,
    ⟨.t 36, .fad 1 (.t 35), none⟩,
    ⟨.t 37, .ld false 1 (.t 36), none⟩,
    ⟨.t 38, .mv (.l 1), none⟩,
    ⟨.t 39, .bin .add (.t 37) (.t 38), none⟩,
    ⟨.t 40, .nilc (.t 34), none⟩,
    ⟨.t 41, .fad 1 (.t 40), none⟩,
    ⟨.no, .sto 1 (.t 41) (.t 39), none⟩]) (
  .seq (.drw [
    ⟨.t 42, .mv (.l 0), none⟩,
    ⟨.t 43, .nilc (.t 42), none⟩,
    ⟨.t 44, .fad 0 (.t 43), none⟩,
    ⟨.t 45, .ld false 1 (.t 44), none⟩,
    ⟨.t 46, .mv (.l 0), none⟩,
    ⟨.t 47, .nilc (.t 46), none⟩,
    ⟨.t 48, .fad 1 (.t 47), none⟩,
    ⟨.t 49, .ld false 1 (.t 48), none⟩,
    ⟨.t 50, .mv (.l 1), none⟩,
    ⟨.t 51, .bin .sub (.t 49) (.t 50), none⟩,
    ⟨.t 52, .mv (.l 0), none⟩,
    ⟨.t 53, .nilc (.t 52), none⟩,
    ⟨.t 54, .fad 1 (.t 53), none⟩,
    ⟨.t 55, .ld false 1 (.t 54), none⟩] [
    ⟨.t 56, .slc (some 1) (.t 45) (some (.t 51)) (some (.t 55)), none⟩,
    ⟨.l 4, .mv (.t 56), none⟩]) (
  .ret)))))
theorem mc142_eq : (Try.f142.body.map (compile lv142 Try.prog 57)) = some mc142 := by kernel_rfl
def mr142 : List MR := [.t 4]
theorem mr142_eq : cRess lv142 Try.prog Try.f142.results.toList = some mr142 := by kernel_rfl
theorem call142 {args : List AV} {H : List AO} {Q : AV → List AO → Prop} (hla : args.length ≤ 57) (h : wpm (ACall Try.prog) mc142 (finK mr142 Q) ⟨argEnv 0 args, [], H⟩) : ACall Try.prog 142 args H Q :=
  acall_mc (by kernel_rfl) Try.func142 mc142_eq Try.ntmps142 (by kernel_rfl) mr142_eq hla h
end Go.Proofs.Ytmbggdfceecojaa.Mc

/- Short numbers read: by the reference. -/
set_option linter.all false
namespace Go.Proofs.Ytmbggdfceecojaa.Cd
open Go.AM Mc Ho


theorem sameS (xs ys : List Int) (hx : xs.length ≤ maxL) (hy : ys.length ≤ maxL) : ACall Try.prog 88 [.p (.l (rowsK .u8 xs)), .p (.l (rowsK .u8 ys))] [] (fun r H => r = .p (.b (decide (xs = ys)))) := by
  refine call88 (by simp) ?_
  simp only [go_sem, Nat.reduceEqDiff, reduceIte, ↓reduceIte, Nat.reduceAdd, mc88, mr88, rowsK_len]
  intro _ _
  refine condK_split _ (fun hc => ?_) (fun hc => ?_)
  · simp only [go_sem, Nat.reduceEqDiff, reduceIte, ↓reduceIte, Nat.reduceAdd]
    have : xs ≠ ys := by rintro rfl; simp at hc
    simp [this]
  · have hl : xs.length = ys.length := by simp at hc; omega
    simp only [go_sem, Nat.reduceEqDiff, reduceIte, ↓reduceIte, Nat.reduceAdd]
    refine ⟨Nat, [0, 1, 4, 5], fun i st => i ≤ xs.length ∧ xs.take i = ys.take i ∧ st = ⟨[(0, .p (.l (rowsK .u8 xs))), (1, .p (.l (rowsK .u8 ys))), (4, .p (.b false)), (5, .p (.i .i64 i))], [], []⟩, fun i => xs.length - i, ⟨0, ?_⟩, ?_⟩
    · simp only [go_sem, Nat.reduceEqDiff, reduceIte, ↓reduceIte, Nat.reduceAdd]
      exact ⟨Nat.zero_le _, rfl, rfl⟩
    · rintro i st ⟨hi, ht, rfl⟩
      simp only [go_sem, Nat.reduceEqDiff, reduceIte, ↓reduceIte, Nat.reduceAdd, rowsK_len]
      intro _
      refine condK_split _ (fun hc => ?_) (fun hc => ?_)
      · have hil : i < xs.length := by simpa using hc
        have hiy : i < ys.length := by omega
        simp only [go_sem, Nat.reduceEqDiff, reduceIte, ↓reduceIte, Nat.reduceAdd]
        (refine drw_same ?_; simp only [go_sem, Nat.reduceEqDiff, reduceIte, ↓reduceIte, Nat.reduceAdd, rowsK_at _ _ hil, rowsK_at _ _ hiy])
        refine condK_split _ (fun hd => ?_) (fun hd => ?_)
        · simp only [go_sem, Nat.reduceEqDiff, reduceIte, ↓reduceIte, Nat.reduceAdd]
          have : xs ≠ ys := by rintro rfl; simp at hd
          simp [this]
        · simp only [go_sem, Nat.reduceEqDiff, reduceIte, ↓reduceIte, Nat.reduceAdd]
          have he : xs[i] = ys[i] := by simpa using hd
          refine ⟨i + 1, ⟨hil, ?_, ?_⟩, by omega⟩
          · rw [List.take_succ, List.take_succ, ht, List.getElem?_eq_getElem hil, List.getElem?_eq_getElem hiy, he]
          · rw [wr1 hil hx]
      · have hil : i = xs.length := by simp at hc; omega
        simp only [go_sem, Nat.reduceEqDiff, reduceIte, ↓reduceIte, Nat.reduceAdd]
        subst hil
        have : xs = ys := by
          rw [List.take_length, hl, List.take_length] at ht
          exact ht
        simp [this]
theorem sameS_any (xs ys : List Int) (hx : xs.length ≤ maxL) (hy : ys.length ≤ maxL) {H : List AO} {a b : AV} (ha : Lent H a (.p (.l (rowsK .u8 xs)))) (hb : Lent H b (.p (.l (rowsK .u8 ys)))) : ACall Try.prog 88 [a, b] H (fun r H' => r = .p (.b (decide (xs = ys))) ∧ H' = H) :=
  (acall_lend (sameS xs ys hx hy) (fun r H' h => by subst h; exact grnd_b _) (lentAll_cons ha (lentAll_cons hb (lentAll_nil _)))).mono fun r H' ⟨h1, _, h2⟩ => ⟨h2, h1⟩


theorem shr1 (z : Nat) : ((z : Int)).fdiv (2 ^ min 1 64) = ((z / 2 : Nat) : Int) := by
  rw [show (2 : Int) ^ min 1 64 = 2 by simp, Int.fdiv_eq_ediv_of_nonneg _ (by omega)]; omega
theorem rowsK_slice (bs : List Int) (i k : Nat) : List.take k (List.drop i (rowsK .u8 bs)) = rowsK .u8 ((bs.drop i).take k) := by simp [rowsK, List.map_drop, List.map_take]
theorem rowsK_one (bs : List Int) : ∀ r ∈ rowsK .u8 bs, r.length = 1 := by
  intro r hr
  obtain ⟨x, _, rfl⟩ := List.mem_map.1 hr
  rfl

/-- what is known of a short number whose last byte is met -/
theorem getS_last {bs : List Int} (hb : isB bs) {i k : Nat} {b : Int} (h : goesOn bs i k) (hk : k < 10) (hbk : bs[i + k]? = some b) (hlt : b < 128) :
    getS bs i = if canon ((bs.drop i).take (k + 1)) = true then some (unzig (val ((bs.drop i).take (k + 1)) % 18446744073709551616), i + k + 1) else none := by
  have e := takeS_last h hk hbk hlt
  rw [← goesOn.take hbk] at e
  have hl : ((bs.drop i).take (k + 1)).length = k + 1 := by rw [goesOn.take hbk, List.length_append, h.len]; rfl
  unfold getS
  rw [e]
  simp only [hl, Nat.add_assoc]
theorem shS {bs : List Int} (hb : isB bs) {i k : Nat} {b : Int} (h : goesOn bs i k) (hk : k < 10) (hbk : bs[i + k]? = some b) (hlt : b < 128) : Sh ((bs.drop i).take (k + 1)) ∧ ((bs.drop i).take (k + 1)).length ≤ 10 := by
  have e := takeS_last h hk hbk hlt
  rw [← goesOn.take hbk] at e
  have := takeS_sh (fun x hx => hb x (List.mem_of_mem_drop hx)) e
  exact ⟨this.1, this.2.1⟩

set_option maxHeartbeats 1000000 in
theorem specGetShort (bs : List Int) (hb : isB bs) (hl : bs.length ≤ 1048576) (i : Nat) (hi : i ≤ 100000000) : ACall Try.prog 138 [.p (.l (rowsK .u8 bs)), .p (.i .i64 i)] [] (fun r H => r = resS (getS bs i)) := by
  have hlm : bs.length ≤ maxL := by unfold maxL; omega
  refine call138 (by simp) ?_
  simp only [go_sem, Nat.reduceEqDiff, reduceIte, ↓reduceIte, Nat.reduceAdd, List.replicate_succ, List.replicate_zero, List.set_cons_zero, List.set_cons_succ, List.length_cons, List.length_nil, Nat.reduceLT, Nat.lt_add_one, ne_eq, Int.reduceEq, not_false_eq_true, Option.map_some, Nat.reduceLeDiff, Nat.zero_lt_succ, List.map_cons, List.map_nil, List.nil_append, List.cons_append, List.append_nil, bytesOf, List.take_succ_cons, List.take_zero, List.drop_zero, and_self, List.append_assoc, List.length_append, Int.reduceLT, Int.reduceLE, Int.toNat_zero, Int.reduceToNat, Int.cast_ofNat_Int, Int.natCast_zero, Int.natCast_one, Int.reduceAdd, List.map_append, Option.bind_some, mc138, mr138, rowsK_len]
  intro _
  rw [wr64 (by omega) (by omega)]
  refine (l1In_any _ _ _).mono ?_
  rintro r H' ⟨rfl, rfl⟩
  simp only [go_sem, Nat.reduceEqDiff, reduceIte, ↓reduceIte, Nat.reduceAdd, List.replicate_succ, List.replicate_zero, List.set_cons_zero, List.set_cons_succ, List.length_cons, List.length_nil, Nat.reduceLT, Nat.lt_add_one, ne_eq, Int.reduceEq, not_false_eq_true, Option.map_some, Nat.reduceLeDiff, Nat.zero_lt_succ, List.map_cons, List.map_nil, List.nil_append, List.cons_append, List.append_nil, bytesOf, List.take_succ_cons, List.take_zero, List.drop_zero, and_self, List.append_assoc, List.length_append, Int.reduceLT, Int.reduceLE, Int.toNat_zero, Int.reduceToNat, Int.cast_ofNat_Int, Int.natCast_zero, Int.natCast_one, Int.reduceAdd, List.map_append, Option.bind_some]
  refine condK_split _ (fun hc => ?_) (fun hc => ?_)
  · have hge : bs.length ≤ i := by simp [inD] at hc; omega
    have e : getS bs i = none := by unfold getS; rw [takeS_end (k := 0) (fun j hj => by omega) (by omega) (by omega)]
    simp only [go_sem, Nat.reduceEqDiff, reduceIte, ↓reduceIte, Nat.reduceAdd, List.replicate_succ, List.replicate_zero, List.set_cons_zero, List.set_cons_succ, List.length_cons, List.length_nil, Nat.reduceLT, Nat.lt_add_one, ne_eq, Int.reduceEq, not_false_eq_true, Option.map_some, Nat.reduceLeDiff, Nat.zero_lt_succ, List.map_cons, List.map_nil, List.nil_append, List.cons_append, List.append_nil, bytesOf, List.take_succ_cons, List.take_zero, List.drop_zero, and_self, List.append_assoc, List.length_append, Int.reduceLT, Int.reduceLE, Int.toNat_zero, Int.reduceToNat, Int.cast_ofNat_Int, Int.natCast_zero, Int.natCast_one, Int.reduceAdd, List.map_append, Option.bind_some, e, resS]
  have hil : i < bs.length := by simp [inD] at hc; omega
  simp only [go_sem, Nat.reduceEqDiff, reduceIte, ↓reduceIte, Nat.reduceAdd, List.replicate_succ, List.replicate_zero, List.set_cons_zero, List.set_cons_succ, List.length_cons, List.length_nil, Nat.reduceLT, Nat.lt_add_one, ne_eq, Int.reduceEq, not_false_eq_true, Option.map_some, Nat.reduceLeDiff, Nat.zero_lt_succ, List.map_cons, List.map_nil, List.nil_append, List.cons_append, List.append_nil, bytesOf, List.take_succ_cons, List.take_zero, List.drop_zero, and_self, List.append_assoc, List.length_append, Int.reduceLT, Int.reduceLE, Int.toNat_zero, Int.reduceToNat, Int.cast_ofNat_Int, Int.natCast_zero, Int.natCast_one, Int.reduceAdd, List.map_append, Option.bind_some]
  refine ⟨Nat, [0, 1, 4, 5, 6, 7, 8], fun k st => k ≤ 10 ∧ goesOn bs i k ∧ st = ⟨[(0, .p (.l (rowsK .u8 bs))), (1, .p (.i .i64 i)), (4, .p (.i .i64 0)), (5, .p (.i .i64 0)), (6, .p (.b false)), (7, .p (.i .u64 ((val ((bs.drop i).take k) % 18446744073709551616 : Nat) : Int))), (8, .p (.i .i64 k))], [], []⟩, fun k => 10 - k, ⟨0, ?_⟩, ?_⟩
  · simp only [go_sem, Nat.reduceEqDiff, reduceIte, ↓reduceIte, Nat.reduceAdd, List.replicate_succ, List.replicate_zero, List.set_cons_zero, List.set_cons_succ, List.length_cons, List.length_nil, Nat.reduceLT, Nat.lt_add_one, ne_eq, Int.reduceEq, not_false_eq_true, Option.map_some, Nat.reduceLeDiff, Nat.zero_lt_succ, List.map_cons, List.map_nil, List.nil_append, List.cons_append, List.append_nil, bytesOf, List.take_succ_cons, List.take_zero, List.drop_zero, and_self, List.append_assoc, List.length_append, Int.reduceLT, Int.reduceLE, Int.toNat_zero, Int.reduceToNat, Int.cast_ofNat_Int, Int.natCast_zero, Int.natCast_one, Int.reduceAdd, List.map_append, Option.bind_some]
    exact ⟨fun j hj => absurd hj (Nat.not_lt_zero _), rfl⟩
  rintro k st ⟨hk, hg, rfl⟩
  have e0 : wr .i64 ((i : Int) + (k : Int)) = ((i + k : Nat) : Int) := by rw [wr64 (by omega) (by omega)]; omega
  by_cases h10 : k < 10
  case neg =>
    have d10 : decide ((k : Int) < 10) = false := by simp; omega
    have hk10 : k = 10 := by omega
    subst hk10
    have e : getS bs i = none := by unfold getS; rw [takeS_all hg]
    simp only [go_sem, Nat.reduceEqDiff, reduceIte, ↓reduceIte, Nat.reduceAdd, List.replicate_succ, List.replicate_zero, List.set_cons_zero, List.set_cons_succ, List.length_cons, List.length_nil, Nat.reduceLT, Nat.lt_add_one, ne_eq, Int.reduceEq, not_false_eq_true, Option.map_some, Nat.reduceLeDiff, Nat.zero_lt_succ, List.map_cons, List.map_nil, List.nil_append, List.cons_append, List.append_nil, bytesOf, List.take_succ_cons, List.take_zero, List.drop_zero, and_self, List.append_assoc, List.length_append, Int.reduceLT, Int.reduceLE, Int.toNat_zero, Int.reduceToNat, Int.cast_ofNat_Int, Int.natCast_zero, Int.natCast_one, Int.reduceAdd, List.map_append, Option.bind_some, d10, e, resS]
  have d10 : decide ((k : Int) < 10) = true := by simp; omega
  by_cases hik : i + k < bs.length
  case neg =>
    have dl : decide (((i + k : Nat) : Int) < (bs.length : Int)) = false := by simp; omega
    have e : getS bs i = none := by unfold getS; rw [takeS_end hg h10 (by omega)]
    simp only [go_sem, Nat.reduceEqDiff, reduceIte, ↓reduceIte, Nat.reduceAdd, List.replicate_succ, List.replicate_zero, List.set_cons_zero, List.set_cons_succ, List.length_cons, List.length_nil, Nat.reduceLT, Nat.lt_add_one, ne_eq, Int.reduceEq, not_false_eq_true, Option.map_some, Nat.reduceLeDiff, Nat.zero_lt_succ, List.map_cons, List.map_nil, List.nil_append, List.cons_append, List.append_nil, bytesOf, List.take_succ_cons, List.take_zero, List.drop_zero, and_self, List.append_assoc, List.length_append, Int.reduceLT, Int.reduceLE, Int.toNat_zero, Int.reduceToNat, Int.cast_ofNat_Int, Int.natCast_zero, Int.natCast_one, Int.reduceAdd, List.map_append, Option.bind_some, d10, e0, dl, e, resS, rowsK_len]
    exact fun _ => trivial
  have dl : decide (((i + k : Nat) : Int) < (bs.length : Int)) = true := by simp; omega
  obtain ⟨b, hbk⟩ : ∃ b, bs[i + k]? = some b := ⟨_, List.getElem?_eq_getElem hik⟩
  have hb2 := hb b (List.mem_of_getElem? hbk)
  have hrow : (rowsK .u8 bs)[i + k]? = some [.i .u8 b] := by simp [rowsK, hbk]
  have hand : ibits .and .u8 b 127 = (((b % 128).toNat : Nat) : Int) := by rw [and_u8_127 hb2.1 hb2.2]; omega
  have hcv : wr .u64 (((b % 128).toNat : Nat) : Int) = (((b % 128).toNat : Nat) : Int) := by rw [wr_u64]; omega
  have h7 : wr .i64 (7 * (k : Int)) = ((7 * k : Nat) : Int) := by rw [wr64 (by omega) (by omega)]; omega
  have h7u : wr .u64 ((7 * k : Nat) : Int) = ((7 * k : Nat) : Int) := by rw [wr_u64]; omega
  have hshl := @shl_step (b % 128).toNat k (by omega)
  have hval := hg.val hbk
  have hvlt : val ((bs.drop i).take k) < 128 ^ k := by
    have := val_lt (bs := (bs.drop i).take k) (fun x hx => (hb x (List.mem_of_mem_drop (List.mem_of_mem_take hx))).1)
    rw [hg.len] at this; exact this
  have h9 : 128 ^ k ≤ 128 ^ 9 := Nat.pow_le_pow_right (by omega) (by omega)
  have e9 : (128 : Nat) ^ 9 = 9223372036854775808 := by rfl
  have hmod : val ((bs.drop i).take k) % 18446744073709551616 = val ((bs.drop i).take k) := Nat.mod_eq_of_lt (by omega)
  have hadd := add_step (val ((bs.drop i).take k)) ((b % 128).toNat * 128 ^ k)
  rw [← hval] at hadd
  have hnn : (0 : Int) ≤ ((7 * k : Nat) : Int) := by omega
  simp only [go_sem, Nat.reduceEqDiff, reduceIte, ↓reduceIte, Nat.reduceAdd, List.replicate_succ, List.replicate_zero, List.set_cons_zero, List.set_cons_succ, List.length_cons, List.length_nil, Nat.reduceLT, Nat.lt_add_one, ne_eq, Int.reduceEq, not_false_eq_true, Option.map_some, Nat.reduceLeDiff, Nat.zero_lt_succ, List.map_cons, List.map_nil, List.nil_append, List.cons_append, List.append_nil, bytesOf, List.take_succ_cons, List.take_zero, List.drop_zero, and_self, List.append_assoc, List.length_append, Int.reduceLT, Int.reduceLE, Int.toNat_zero, Int.reduceToNat, Int.cast_ofNat_Int, Int.natCast_zero, Int.natCast_one, Int.reduceAdd, List.map_append, Option.bind_some, d10, e0, dl, rowsK_len]
  intro _
  simp only [go_sem, Nat.reduceEqDiff, reduceIte, ↓reduceIte, Nat.reduceAdd, List.replicate_succ, List.replicate_zero, List.set_cons_zero, List.set_cons_succ, List.length_cons, List.length_nil, Nat.reduceLT, Nat.lt_add_one, ne_eq, Int.reduceEq, not_false_eq_true, Option.map_some, Nat.reduceLeDiff, Nat.zero_lt_succ, List.map_cons, List.map_nil, List.nil_append, List.cons_append, List.append_nil, bytesOf, List.take_succ_cons, List.take_zero, List.drop_zero, and_self, List.append_assoc, List.length_append, Int.reduceLT, Int.reduceLE, Int.toNat_zero, Int.reduceToNat, Int.cast_ofNat_Int, Int.natCast_zero, Int.natCast_one, Int.reduceAdd, List.map_append, Option.bind_some, d10, e0, dl, rowsK_len, hrow, hand, hcv, h7, h7u, hnn, Int.toNat_natCast, hshl, hmod, hadd]
  by_cases h128 : b < 128
  · have d128 : decide (b < 128) = true := by simp [h128]
    have hsh := shS hb hg h10 hbk h128
    have hgs := getS_last hb hg h10 hbk h128
    have hci := canon_iff hsh.1 hsh.2
    obtain ⟨z, hz⟩ : ∃ z, val ((bs.drop i).take (k + 1)) % 18446744073709551616 = z := ⟨_, rfl⟩
    have hz64 : z < 18446744073709551616 := by rw [← hz]; exact Nat.mod_lt _ (by omega)
    rw [hz] at hgs hci
    have hs1 : wr .i64 ((z / 2 : Nat) : Int) = ((z / 2 : Nat) : Int) := wr64 (by omega) (by omega)
    have ha1 := and_u64_1 hz64
    have ek1 : wr .i64 (((i + k : Nat) : Int) + 1) = ((i + k + 1 : Nat) : Int) := by rw [wr64 (by omega) (by omega)]; omega
    have hsub : i + k + 1 - i = k + 1 := by omega
    have hel : (enc z).length ≤ maxL := by have := enc10 (unzig_rng hz64).1 (unzig_rng hz64).2; rw [zig_unzig] at this; unfold maxL; omega
    have htl : ((bs.drop i).take (k + 1)).length ≤ maxL := by unfold maxL; omega
    simp only [go_sem, Nat.reduceEqDiff, reduceIte, ↓reduceIte, Nat.reduceAdd, List.replicate_succ, List.replicate_zero, List.set_cons_zero, List.set_cons_succ, List.length_cons, List.length_nil, Nat.reduceLT, Nat.lt_add_one, ne_eq, Int.reduceEq, not_false_eq_true, Option.map_some, Nat.reduceLeDiff, Nat.zero_lt_succ, List.map_cons, List.map_nil, List.nil_append, List.cons_append, List.append_nil, bytesOf, List.take_succ_cons, List.take_zero, List.drop_zero, and_self, List.append_assoc, List.length_append, Int.reduceLT, Int.reduceLE, Int.toNat_zero, Int.reduceToNat, Int.cast_ofNat_Int, Int.natCast_zero, Int.natCast_one, Int.reduceAdd, List.map_append, Option.bind_some, d128, hz, shr1, hs1, ha1]
    by_cases hodd : z % 2 = 1
    · have hneg : wr .i64 (0 - ((z / 2 : Nat) : Int)) = -((z / 2 : Nat) : Int) := by rw [wr64 (by omega) (by omega)]; omega
      have hun : wr .i64 (-((z / 2 : Nat) : Int) - 1) = unzig z := by rw [wr64 (by omega) (by omega)]; unfold unzig; rw [if_neg (by omega)]
      simp only [go_sem, Nat.reduceEqDiff, reduceIte, ↓reduceIte, Nat.reduceAdd, List.replicate_succ, List.replicate_zero, List.set_cons_zero, List.set_cons_succ, List.length_cons, List.length_nil, Nat.reduceLT, Nat.lt_add_one, ne_eq, Int.reduceEq, not_false_eq_true, Option.map_some, Nat.reduceLeDiff, Nat.zero_lt_succ, List.map_cons, List.map_nil, List.nil_append, List.cons_append, List.append_nil, bytesOf, List.take_succ_cons, List.take_zero, List.drop_zero, and_self, List.append_assoc, List.length_append, Int.reduceLT, Int.reduceLE, Int.toNat_zero, Int.reduceToNat, Int.cast_ofNat_Int, Int.natCast_zero, Int.natCast_one, Int.reduceAdd, List.map_append, Option.bind_some, hodd, hneg, hun]
      refine drw_same ?_
      simp only [go_sem, Nat.reduceEqDiff, reduceIte, ↓reduceIte, Nat.reduceAdd, List.replicate_succ, List.replicate_zero, List.set_cons_zero, List.set_cons_succ, List.length_cons, List.length_nil, Nat.reduceLT, Nat.lt_add_one, ne_eq, Int.reduceEq, not_false_eq_true, Option.map_some, Nat.reduceLeDiff, Nat.zero_lt_succ, List.map_cons, List.map_nil, List.nil_append, List.cons_append, List.append_nil, bytesOf, List.take_succ_cons, List.take_zero, List.drop_zero, and_self, List.append_assoc, List.length_append, Int.reduceLT, Int.reduceLE, Int.toNat_zero, Int.reduceToNat, Int.cast_ofNat_Int, Int.natCast_zero, Int.natCast_one, Int.reduceAdd, List.map_append, Option.bind_some]
      refine pcall_pure (fun A => (putShort (unzig z) (unzig_rng hz64).1 (unzig_rng hz64).2).mono fun r H' ⟨h1, h2⟩ => ⟨h2, h1⟩) (Hext.refl _) ?_
      simp only [go_sem, Nat.reduceEqDiff, reduceIte, ↓reduceIte, Nat.reduceAdd, List.replicate_succ, List.replicate_zero, List.set_cons_zero, List.set_cons_succ, List.length_cons, List.length_nil, Nat.reduceLT, Nat.lt_add_one, ne_eq, Int.reduceEq, not_false_eq_true, Option.map_some, Nat.reduceLeDiff, Nat.zero_lt_succ, List.map_cons, List.map_nil, List.nil_append, List.cons_append, List.append_nil, bytesOf, List.take_succ_cons, List.take_zero, List.drop_zero, and_self, List.append_assoc, List.length_append, Int.reduceLT, Int.reduceLE, Int.toNat_zero, Int.reduceToNat, Int.cast_ofNat_Int, Int.natCast_zero, Int.natCast_one, Int.reduceAdd, List.map_append, Option.bind_some, e0, ek1, rowsK_len]
      refine ⟨rowsK_one _, by omega, by omega, ?_⟩
      rw [zig_unzig, rowsK_slice, hsub]
      refine (sameS_any _ _ hel htl (.pure _) (.pure _)).mono ?_
      rintro r H' ⟨rfl, rfl⟩
      by_cases hcn : canon ((bs.drop i).take (k + 1)) = true
      · rw [if_pos hcn] at hgs
        have hde : decide (enc z = (bs.drop i).take (k + 1)) = true := by simp; exact hci.1 hcn
        simp only [go_sem, Nat.reduceEqDiff, reduceIte, ↓reduceIte, Nat.reduceAdd, List.replicate_succ, List.replicate_zero, List.set_cons_zero, List.set_cons_succ, List.length_cons, List.length_nil, Nat.reduceLT, Nat.lt_add_one, ne_eq, Int.reduceEq, not_false_eq_true, Option.map_some, Nat.reduceLeDiff, Nat.zero_lt_succ, List.map_cons, List.map_nil, List.nil_append, List.cons_append, List.append_nil, bytesOf, List.take_succ_cons, List.take_zero, List.drop_zero, and_self, List.append_assoc, List.length_append, Int.reduceLT, Int.reduceLE, Int.toNat_zero, Int.reduceToNat, Int.cast_ofNat_Int, Int.natCast_zero, Int.natCast_one, Int.reduceAdd, List.map_append, Option.bind_some, hde, e0, ek1, hgs, resS]
      · rw [if_neg hcn] at hgs
        have hde : decide (enc z = (bs.drop i).take (k + 1)) = false := by simp; exact fun h => hcn (hci.2 h)
        simp only [go_sem, Nat.reduceEqDiff, reduceIte, ↓reduceIte, Nat.reduceAdd, List.replicate_succ, List.replicate_zero, List.set_cons_zero, List.set_cons_succ, List.length_cons, List.length_nil, Nat.reduceLT, Nat.lt_add_one, ne_eq, Int.reduceEq, not_false_eq_true, Option.map_some, Nat.reduceLeDiff, Nat.zero_lt_succ, List.map_cons, List.map_nil, List.nil_append, List.cons_append, List.append_nil, bytesOf, List.take_succ_cons, List.take_zero, List.drop_zero, and_self, List.append_assoc, List.length_append, Int.reduceLT, Int.reduceLE, Int.toNat_zero, Int.reduceToNat, Int.cast_ofNat_Int, Int.natCast_zero, Int.natCast_one, Int.reduceAdd, List.map_append, Option.bind_some, hde, e0, ek1, hgs, resS]
    · have hev : z % 2 = 0 := by omega
      have hun : ((z / 2 : Nat) : Int) = unzig z := by unfold unzig; rw [if_pos hev]
      simp only [go_sem, Nat.reduceEqDiff, reduceIte, ↓reduceIte, Nat.reduceAdd, List.replicate_succ, List.replicate_zero, List.set_cons_zero, List.set_cons_succ, List.length_cons, List.length_nil, Nat.reduceLT, Nat.lt_add_one, ne_eq, Int.reduceEq, not_false_eq_true, Option.map_some, Nat.reduceLeDiff, Nat.zero_lt_succ, List.map_cons, List.map_nil, List.nil_append, List.cons_append, List.append_nil, bytesOf, List.take_succ_cons, List.take_zero, List.drop_zero, and_self, List.append_assoc, List.length_append, Int.reduceLT, Int.reduceLE, Int.toNat_zero, Int.reduceToNat, Int.cast_ofNat_Int, Int.natCast_zero, Int.natCast_one, Int.reduceAdd, List.map_append, Option.bind_some, hev]
      refine drw_same ?_
      simp only [go_sem, Nat.reduceEqDiff, reduceIte, ↓reduceIte, Nat.reduceAdd, List.replicate_succ, List.replicate_zero, List.set_cons_zero, List.set_cons_succ, List.length_cons, List.length_nil, Nat.reduceLT, Nat.lt_add_one, ne_eq, Int.reduceEq, not_false_eq_true, Option.map_some, Nat.reduceLeDiff, Nat.zero_lt_succ, List.map_cons, List.map_nil, List.nil_append, List.cons_append, List.append_nil, bytesOf, List.take_succ_cons, List.take_zero, List.drop_zero, and_self, List.append_assoc, List.length_append, Int.reduceLT, Int.reduceLE, Int.toNat_zero, Int.reduceToNat, Int.cast_ofNat_Int, Int.natCast_zero, Int.natCast_one, Int.reduceAdd, List.map_append, Option.bind_some]
      rw [hun]
      refine pcall_pure (fun A => (putShort (unzig z) (unzig_rng hz64).1 (unzig_rng hz64).2).mono fun r H' ⟨h1, h2⟩ => ⟨h2, h1⟩) (Hext.refl _) ?_
      simp only [go_sem, Nat.reduceEqDiff, reduceIte, ↓reduceIte, Nat.reduceAdd, List.replicate_succ, List.replicate_zero, List.set_cons_zero, List.set_cons_succ, List.length_cons, List.length_nil, Nat.reduceLT, Nat.lt_add_one, ne_eq, Int.reduceEq, not_false_eq_true, Option.map_some, Nat.reduceLeDiff, Nat.zero_lt_succ, List.map_cons, List.map_nil, List.nil_append, List.cons_append, List.append_nil, bytesOf, List.take_succ_cons, List.take_zero, List.drop_zero, and_self, List.append_assoc, List.length_append, Int.reduceLT, Int.reduceLE, Int.toNat_zero, Int.reduceToNat, Int.cast_ofNat_Int, Int.natCast_zero, Int.natCast_one, Int.reduceAdd, List.map_append, Option.bind_some, e0, ek1, rowsK_len]
      refine ⟨rowsK_one _, by omega, by omega, ?_⟩
      rw [zig_unzig, rowsK_slice, hsub]
      refine (sameS_any _ _ hel htl (.pure _) (.pure _)).mono ?_
      rintro r H' ⟨rfl, rfl⟩
      by_cases hcn : canon ((bs.drop i).take (k + 1)) = true
      · rw [if_pos hcn] at hgs
        have hde : decide (enc z = (bs.drop i).take (k + 1)) = true := by simp; exact hci.1 hcn
        simp only [go_sem, Nat.reduceEqDiff, reduceIte, ↓reduceIte, Nat.reduceAdd, List.replicate_succ, List.replicate_zero, List.set_cons_zero, List.set_cons_succ, List.length_cons, List.length_nil, Nat.reduceLT, Nat.lt_add_one, ne_eq, Int.reduceEq, not_false_eq_true, Option.map_some, Nat.reduceLeDiff, Nat.zero_lt_succ, List.map_cons, List.map_nil, List.nil_append, List.cons_append, List.append_nil, bytesOf, List.take_succ_cons, List.take_zero, List.drop_zero, and_self, List.append_assoc, List.length_append, Int.reduceLT, Int.reduceLE, Int.toNat_zero, Int.reduceToNat, Int.cast_ofNat_Int, Int.natCast_zero, Int.natCast_one, Int.reduceAdd, List.map_append, Option.bind_some, hde, e0, ek1, hgs, resS]
      · rw [if_neg hcn] at hgs
        have hde : decide (enc z = (bs.drop i).take (k + 1)) = false := by simp; exact fun h => hcn (hci.2 h)
        simp only [go_sem, Nat.reduceEqDiff, reduceIte, ↓reduceIte, Nat.reduceAdd, List.replicate_succ, List.replicate_zero, List.set_cons_zero, List.set_cons_succ, List.length_cons, List.length_nil, Nat.reduceLT, Nat.lt_add_one, ne_eq, Int.reduceEq, not_false_eq_true, Option.map_some, Nat.reduceLeDiff, Nat.zero_lt_succ, List.map_cons, List.map_nil, List.nil_append, List.cons_append, List.append_nil, bytesOf, List.take_succ_cons, List.take_zero, List.drop_zero, and_self, List.append_assoc, List.length_append, Int.reduceLT, Int.reduceLE, Int.toNat_zero, Int.reduceToNat, Int.cast_ofNat_Int, Int.natCast_zero, Int.natCast_one, Int.reduceAdd, List.map_append, Option.bind_some, hde, e0, ek1, hgs, resS]
  · have d128 : decide (b < 128) = false := by simp; omega
    have ek : wr .i64 ((k : Int) + 1) = ((k + 1 : Nat) : Int) := by rw [wr64 (by omega) (by omega)]; omega
    simp only [go_sem, Nat.reduceEqDiff, reduceIte, ↓reduceIte, Nat.reduceAdd, List.replicate_succ, List.replicate_zero, List.set_cons_zero, List.set_cons_succ, List.length_cons, List.length_nil, Nat.reduceLT, Nat.lt_add_one, ne_eq, Int.reduceEq, not_false_eq_true, Option.map_some, Nat.reduceLeDiff, Nat.zero_lt_succ, List.map_cons, List.map_nil, List.nil_append, List.cons_append, List.append_nil, bytesOf, List.take_succ_cons, List.take_zero, List.drop_zero, and_self, List.append_assoc, List.length_append, Int.reduceLT, Int.reduceLE, Int.toNat_zero, Int.reduceToNat, Int.cast_ofNat_Int, Int.natCast_zero, Int.natCast_one, Int.reduceAdd, List.map_append, Option.bind_some, d128, ek]
    exact ⟨k + 1, ⟨by omega, hg.more hbk (by omega), rfl⟩, by omega⟩
end Go.Proofs.Ytmbggdfceecojaa.Cd

/- Short numbers read: by the program. -/
set_option linter.all false
namespace Go.Proofs.Ytmbggdfceecojaa.Cd
open Go.AM Mc Ho

theorem canon_last {us : List Int} {b : Int} : canon (us ++ [b]) = (!(decide (0 < us.length) && decide (b = 0)) && !(decide (us.length = 9) && decide (1 < b))) := by
  simp [canon, List.length_pos_iff]

set_option maxHeartbeats 1000000 in
theorem implGetShort (bs : List Int) (hb : isB bs) (hl : bs.length ≤ 1048576) (i : Nat) (hi : i ≤ 100000000) : ACall Try.prog 141 [.p (.l (rowsK .u8 bs)), .p (.i .i64 i)] [] (fun r H => r = resS (getS bs i)) := by
  have hlm : bs.length ≤ maxL := by unfold maxL; omega
  refine call141 (by simp) ?_
  simp only [go_sem, Nat.reduceEqDiff, reduceIte, ↓reduceIte, Nat.reduceAdd, List.replicate_succ, List.replicate_zero, List.set_cons_zero, List.set_cons_succ, List.length_cons, List.length_nil, Nat.reduceLT, Nat.lt_add_one, ne_eq, Int.reduceEq, not_false_eq_true, Option.map_some, Nat.reduceLeDiff, Nat.zero_lt_succ, List.map_cons, List.map_nil, List.nil_append, List.cons_append, List.append_nil, bytesOf, List.take_succ_cons, List.take_zero, List.drop_zero, and_self, List.append_assoc, List.length_append, Int.reduceLT, Int.reduceLE, Int.toNat_zero, Int.reduceToNat, Int.cast_ofNat_Int, Int.natCast_zero, Int.natCast_one, Int.reduceAdd, List.map_append, Option.bind_some, mc141, mr141, rowsK_len]
  intro _
  rw [wr64 (by omega) (by omega)]
  refine (within_any _ _ _).mono ?_
  rintro r H' ⟨rfl, rfl⟩
  simp only [go_sem, Nat.reduceEqDiff, reduceIte, ↓reduceIte, Nat.reduceAdd, List.replicate_succ, List.replicate_zero, List.set_cons_zero, List.set_cons_succ, List.length_cons, List.length_nil, Nat.reduceLT, Nat.lt_add_one, ne_eq, Int.reduceEq, not_false_eq_true, Option.map_some, Nat.reduceLeDiff, Nat.zero_lt_succ, List.map_cons, List.map_nil, List.nil_append, List.cons_append, List.append_nil, bytesOf, List.take_succ_cons, List.take_zero, List.drop_zero, and_self, List.append_assoc, List.length_append, Int.reduceLT, Int.reduceLE, Int.toNat_zero, Int.reduceToNat, Int.cast_ofNat_Int, Int.natCast_zero, Int.natCast_one, Int.reduceAdd, List.map_append, Option.bind_some]
  refine condK_split _ (fun hc => ?_) (fun hc => ?_)
  · have hge : bs.length ≤ i := by simp [inD] at hc; omega
    have e : getS bs i = none := by unfold getS; rw [takeS_end (k := 0) (fun j hj => by omega) (by omega) (by omega)]
    simp only [go_sem, Nat.reduceEqDiff, reduceIte, ↓reduceIte, Nat.reduceAdd, List.replicate_succ, List.replicate_zero, List.set_cons_zero, List.set_cons_succ, List.length_cons, List.length_nil, Nat.reduceLT, Nat.lt_add_one, ne_eq, Int.reduceEq, not_false_eq_true, Option.map_some, Nat.reduceLeDiff, Nat.zero_lt_succ, List.map_cons, List.map_nil, List.nil_append, List.cons_append, List.append_nil, bytesOf, List.take_succ_cons, List.take_zero, List.drop_zero, and_self, List.append_assoc, List.length_append, Int.reduceLT, Int.reduceLE, Int.toNat_zero, Int.reduceToNat, Int.cast_ofNat_Int, Int.natCast_zero, Int.natCast_one, Int.reduceAdd, List.map_append, Option.bind_some, e, resS]
  have hil : i < bs.length := by simp [inD] at hc; omega
  simp only [go_sem, Nat.reduceEqDiff, reduceIte, ↓reduceIte, Nat.reduceAdd, List.replicate_succ, List.replicate_zero, List.set_cons_zero, List.set_cons_succ, List.length_cons, List.length_nil, Nat.reduceLT, Nat.lt_add_one, ne_eq, Int.reduceEq, not_false_eq_true, Option.map_some, Nat.reduceLeDiff, Nat.zero_lt_succ, List.map_cons, List.map_nil, List.nil_append, List.cons_append, List.append_nil, bytesOf, List.take_succ_cons, List.take_zero, List.drop_zero, and_self, List.append_assoc, List.length_append, Int.reduceLT, Int.reduceLE, Int.toNat_zero, Int.reduceToNat, Int.cast_ofNat_Int, Int.natCast_zero, Int.natCast_one, Int.reduceAdd, List.map_append, Option.bind_some]
  refine ⟨Nat, [0, 1, 4, 5, 6, 7, 8], fun k st => k ≤ 10 ∧ goesOn bs i k ∧ st = ⟨[(0, .p (.l (rowsK .u8 bs))), (1, .p (.i .i64 i)), (4, .p (.i .i64 0)), (5, .p (.i .i64 0)), (6, .p (.b false)), (7, .p (.i .u64 ((val ((bs.drop i).take k) % 18446744073709551616 : Nat) : Int))), (8, .p (.i .i64 k))], [], []⟩, fun k => 10 - k, ⟨0, ?_⟩, ?_⟩
  · simp only [go_sem, Nat.reduceEqDiff, reduceIte, ↓reduceIte, Nat.reduceAdd, List.replicate_succ, List.replicate_zero, List.set_cons_zero, List.set_cons_succ, List.length_cons, List.length_nil, Nat.reduceLT, Nat.lt_add_one, ne_eq, Int.reduceEq, not_false_eq_true, Option.map_some, Nat.reduceLeDiff, Nat.zero_lt_succ, List.map_cons, List.map_nil, List.nil_append, List.cons_append, List.append_nil, bytesOf, List.take_succ_cons, List.take_zero, List.drop_zero, and_self, List.append_assoc, List.length_append, Int.reduceLT, Int.reduceLE, Int.toNat_zero, Int.reduceToNat, Int.cast_ofNat_Int, Int.natCast_zero, Int.natCast_one, Int.reduceAdd, List.map_append, Option.bind_some]
    exact ⟨fun j hj => absurd hj (Nat.not_lt_zero _), rfl⟩
  rintro k st ⟨hk, hg, rfl⟩
  have e0 : wr .i64 ((i : Int) + (k : Int)) = ((i + k : Nat) : Int) := by rw [wr64 (by omega) (by omega)]; omega
  by_cases h10 : k < 10
  case neg =>
    have d10 : decide ((k : Int) < 10) = false := by simp; omega
    have hk10 : k = 10 := by omega
    subst hk10
    have e : getS bs i = none := by unfold getS; rw [takeS_all hg]
    simp only [go_sem, Nat.reduceEqDiff, reduceIte, ↓reduceIte, Nat.reduceAdd, List.replicate_succ, List.replicate_zero, List.set_cons_zero, List.set_cons_succ, List.length_cons, List.length_nil, Nat.reduceLT, Nat.lt_add_one, ne_eq, Int.reduceEq, not_false_eq_true, Option.map_some, Nat.reduceLeDiff, Nat.zero_lt_succ, List.map_cons, List.map_nil, List.nil_append, List.cons_append, List.append_nil, bytesOf, List.take_succ_cons, List.take_zero, List.drop_zero, and_self, List.append_assoc, List.length_append, Int.reduceLT, Int.reduceLE, Int.toNat_zero, Int.reduceToNat, Int.cast_ofNat_Int, Int.natCast_zero, Int.natCast_one, Int.reduceAdd, List.map_append, Option.bind_some, d10, e, resS]
  have d10 : decide ((k : Int) < 10) = true := by simp; omega
  by_cases hik : i + k < bs.length
  case neg =>
    have dl : decide (((i + k : Nat) : Int) < (bs.length : Int)) = false := by simp; omega
    have e : getS bs i = none := by unfold getS; rw [takeS_end hg h10 (by omega)]
    simp only [go_sem, Nat.reduceEqDiff, reduceIte, ↓reduceIte, Nat.reduceAdd, List.replicate_succ, List.replicate_zero, List.set_cons_zero, List.set_cons_succ, List.length_cons, List.length_nil, Nat.reduceLT, Nat.lt_add_one, ne_eq, Int.reduceEq, not_false_eq_true, Option.map_some, Nat.reduceLeDiff, Nat.zero_lt_succ, List.map_cons, List.map_nil, List.nil_append, List.cons_append, List.append_nil, bytesOf, List.take_succ_cons, List.take_zero, List.drop_zero, and_self, List.append_assoc, List.length_append, Int.reduceLT, Int.reduceLE, Int.toNat_zero, Int.reduceToNat, Int.cast_ofNat_Int, Int.natCast_zero, Int.natCast_one, Int.reduceAdd, List.map_append, Option.bind_some, d10, e0, dl, e, resS, rowsK_len]
    exact fun _ => trivial
  have dl : decide (((i + k : Nat) : Int) < (bs.length : Int)) = true := by simp; omega
  obtain ⟨b, hbk⟩ : ∃ b, bs[i + k]? = some b := ⟨_, List.getElem?_eq_getElem hik⟩
  have hb2 := hb b (List.mem_of_getElem? hbk)
  have hrow : (rowsK .u8 bs)[i + k]? = some [.i .u8 b] := by simp [rowsK, hbk]
  have hand : ibits .and .u8 b 127 = (((b % 128).toNat : Nat) : Int) := by rw [and_u8_127 hb2.1 hb2.2]; omega
  have hcv : wr .u64 (((b % 128).toNat : Nat) : Int) = (((b % 128).toNat : Nat) : Int) := by rw [wr_u64]; omega
  have h7 : wr .i64 (7 * (k : Int)) = ((7 * k : Nat) : Int) := by rw [wr64 (by omega) (by omega)]; omega
  have h7u : wr .u64 ((7 * k : Nat) : Int) = ((7 * k : Nat) : Int) := by rw [wr_u64]; omega
  have hshl := @shl_step (b % 128).toNat k (by omega)
  have hval := hg.val hbk
  have hvlt : val ((bs.drop i).take k) < 128 ^ k := by
    have := val_lt (bs := (bs.drop i).take k) (fun x hx => (hb x (List.mem_of_mem_drop (List.mem_of_mem_take hx))).1)
    rw [hg.len] at this; exact this
  have h9 : 128 ^ k ≤ 128 ^ 9 := Nat.pow_le_pow_right (by omega) (by omega)
  have e9 : (128 : Nat) ^ 9 = 9223372036854775808 := by rfl
  have hmod : val ((bs.drop i).take k) % 18446744073709551616 = val ((bs.drop i).take k) := Nat.mod_eq_of_lt (by omega)
  have hadd := or_step (x := val ((bs.drop i).take k)) (m := (b % 128).toNat) (k := k) (by omega) hvlt
  rw [← hval] at hadd
  have hnn : (0 : Int) ≤ ((7 * k : Nat) : Int) := by omega
  simp only [go_sem, Nat.reduceEqDiff, reduceIte, ↓reduceIte, Nat.reduceAdd, List.replicate_succ, List.replicate_zero, List.set_cons_zero, List.set_cons_succ, List.length_cons, List.length_nil, Nat.reduceLT, Nat.lt_add_one, ne_eq, Int.reduceEq, not_false_eq_true, Option.map_some, Nat.reduceLeDiff, Nat.zero_lt_succ, List.map_cons, List.map_nil, List.nil_append, List.cons_append, List.append_nil, bytesOf, List.take_succ_cons, List.take_zero, List.drop_zero, and_self, List.append_assoc, List.length_append, Int.reduceLT, Int.reduceLE, Int.toNat_zero, Int.reduceToNat, Int.cast_ofNat_Int, Int.natCast_zero, Int.natCast_one, Int.reduceAdd, List.map_append, Option.bind_some, d10, e0, dl, rowsK_len]
  intro _
  simp only [go_sem, Nat.reduceEqDiff, reduceIte, ↓reduceIte, Nat.reduceAdd, List.replicate_succ, List.replicate_zero, List.set_cons_zero, List.set_cons_succ, List.length_cons, List.length_nil, Nat.reduceLT, Nat.lt_add_one, ne_eq, Int.reduceEq, not_false_eq_true, Option.map_some, Nat.reduceLeDiff, Nat.zero_lt_succ, List.map_cons, List.map_nil, List.nil_append, List.cons_append, List.append_nil, bytesOf, List.take_succ_cons, List.take_zero, List.drop_zero, and_self, List.append_assoc, List.length_append, Int.reduceLT, Int.reduceLE, Int.toNat_zero, Int.reduceToNat, Int.cast_ofNat_Int, Int.natCast_zero, Int.natCast_one, Int.reduceAdd, List.map_append, Option.bind_some, d10, e0, dl, rowsK_len, hrow, hand, hcv, h7, hnn, Int.toNat_natCast, hshl, hmod, hadd]
  have hcl : canon ((bs.drop i).take (k + 1)) = (!(decide (0 < k) && decide (b = 0)) && !(decide (k = 9) && decide (1 < b))) := by
    rw [goesOn.take hbk, canon_last, hg.len]
  by_cases h128 : b < 128
  · have d127 : decide (127 < b) = false := by simp; omega
    have hgs := getS_last hb hg h10 hbk h128
    obtain ⟨z, hz⟩ : ∃ z, val ((bs.drop i).take (k + 1)) % 18446744073709551616 = z := ⟨_, rfl⟩
    have hz64 : z < 18446744073709551616 := by rw [← hz]; exact Nat.mod_lt _ (by omega)
    rw [hz] at hgs
    have hs1 : wr .i64 ((z / 2 : Nat) : Int) = ((z / 2 : Nat) : Int) := wr64 (by omega) (by omega)
    have hm1 : wr .i64 ((z % 2 : Nat) : Int) = ((z % 2 : Nat) : Int) := wr64 (by omega) (by omega)
    have ha1 := and_u64_1 hz64
    have ek1 : wr .i64 (((i + k : Nat) : Int) + 1) = ((i + k + 1 : Nat) : Int) := by rw [wr64 (by omega) (by omega)]; omega
    have hxor : ibits .xor .i64 ((z / 2 : Nat) : Int) (wr .i64 (0 - ((z % 2 : Nat) : Int))) = unzig z := by
      unfold unzig
      split
      · rename_i h; rw [h]; exact xor_i64_zero (by omega) (by omega)
      · have h : z % 2 = 1 := by omega
        rw [h]; exact xor_i64_ones (by omega) (by omega)
    simp only [go_sem, Nat.reduceEqDiff, reduceIte, ↓reduceIte, Nat.reduceAdd, List.replicate_succ, List.replicate_zero, List.set_cons_zero, List.set_cons_succ, List.length_cons, List.length_nil, Nat.reduceLT, Nat.lt_add_one, ne_eq, Int.reduceEq, not_false_eq_true, Option.map_some, Nat.reduceLeDiff, Nat.zero_lt_succ, List.map_cons, List.map_nil, List.nil_append, List.cons_append, List.append_nil, bytesOf, List.take_succ_cons, List.take_zero, List.drop_zero, and_self, List.append_assoc, List.length_append, Int.reduceLT, Int.reduceLE, Int.toNat_zero, Int.reduceToNat, Int.cast_ofNat_Int, Int.natCast_zero, Int.natCast_one, Int.reduceAdd, List.map_append, Option.bind_some, d127]
    by_cases hk0 : 0 < k
    · have dk0 : decide (0 < (k : Int)) = true := by simp; omega
      by_cases hb0 : b = 0
      · have db0 : decide (b = 0) = true := by simp [hb0]
        have hcn : canon ((bs.drop i).take (k + 1)) = false := by rw [hcl]; simp [hk0, hb0]
        rw [if_neg (by simp [hcn])] at hgs
        simp only [go_sem, Nat.reduceEqDiff, reduceIte, ↓reduceIte, Nat.reduceAdd, List.replicate_succ, List.replicate_zero, List.set_cons_zero, List.set_cons_succ, List.length_cons, List.length_nil, Nat.reduceLT, Nat.lt_add_one, ne_eq, Int.reduceEq, not_false_eq_true, Option.map_some, Nat.reduceLeDiff, Nat.zero_lt_succ, List.map_cons, List.map_nil, List.nil_append, List.cons_append, List.append_nil, bytesOf, List.take_succ_cons, List.take_zero, List.drop_zero, and_self, List.append_assoc, List.length_append, Int.reduceLT, Int.reduceLE, Int.toNat_zero, Int.reduceToNat, Int.cast_ofNat_Int, Int.natCast_zero, Int.natCast_one, Int.reduceAdd, List.map_append, Option.bind_some, dk0, db0, hgs, resS]
      have db0 : decide (b = 0) = false := by simp [hb0]
      by_cases hk9 : k = 9
      · have dk9 : decide ((k : Int) = 9) = true := by simp; omega
        by_cases hb1 : 1 < b
        · have db1 : decide (1 < b) = true := by simp [hb1]
          have hcn : canon ((bs.drop i).take (k + 1)) = false := by rw [hcl]; simp [hk9, hb1]
          rw [if_neg (by simp [hcn])] at hgs
          simp only [go_sem, Nat.reduceEqDiff, reduceIte, ↓reduceIte, Nat.reduceAdd, List.replicate_succ, List.replicate_zero, List.set_cons_zero, List.set_cons_succ, List.length_cons, List.length_nil, Nat.reduceLT, Nat.lt_add_one, ne_eq, Int.reduceEq, not_false_eq_true, Option.map_some, Nat.reduceLeDiff, Nat.zero_lt_succ, List.map_cons, List.map_nil, List.nil_append, List.cons_append, List.append_nil, bytesOf, List.take_succ_cons, List.take_zero, List.drop_zero, and_self, List.append_assoc, List.length_append, Int.reduceLT, Int.reduceLE, Int.toNat_zero, Int.reduceToNat, Int.cast_ofNat_Int, Int.natCast_zero, Int.natCast_one, Int.reduceAdd, List.map_append, Option.bind_some, dk0, db0, dk9, db1, hgs, resS]
        · have db1 : decide (1 < b) = false := by simp; omega
          have hcn : canon ((bs.drop i).take (k + 1)) = true := by rw [hcl]; simp [hb0, hb1]
          rw [if_pos hcn] at hgs
          simp only [go_sem, Nat.reduceEqDiff, reduceIte, ↓reduceIte, Nat.reduceAdd, List.replicate_succ, List.replicate_zero, List.set_cons_zero, List.set_cons_succ, List.length_cons, List.length_nil, Nat.reduceLT, Nat.lt_add_one, ne_eq, Int.reduceEq, not_false_eq_true, Option.map_some, Nat.reduceLeDiff, Nat.zero_lt_succ, List.map_cons, List.map_nil, List.nil_append, List.cons_append, List.append_nil, bytesOf, List.take_succ_cons, List.take_zero, List.drop_zero, and_self, List.append_assoc, List.length_append, Int.reduceLT, Int.reduceLE, Int.toNat_zero, Int.reduceToNat, Int.cast_ofNat_Int, Int.natCast_zero, Int.natCast_one, Int.reduceAdd, List.map_append, Option.bind_some, dk0, db0, dk9, db1, d127, hz, shr1, hs1, ha1, hm1, hxor, e0, ek1, hgs, resS]
      · have dk9 : decide ((k : Int) = 9) = false := by simp; omega
        have hcn : canon ((bs.drop i).take (k + 1)) = true := by rw [hcl]; simp [hb0, hk9]
        rw [if_pos hcn] at hgs
        simp only [go_sem, Nat.reduceEqDiff, reduceIte, ↓reduceIte, Nat.reduceAdd, List.replicate_succ, List.replicate_zero, List.set_cons_zero, List.set_cons_succ, List.length_cons, List.length_nil, Nat.reduceLT, Nat.lt_add_one, ne_eq, Int.reduceEq, not_false_eq_true, Option.map_some, Nat.reduceLeDiff, Nat.zero_lt_succ, List.map_cons, List.map_nil, List.nil_append, List.cons_append, List.append_nil, bytesOf, List.take_succ_cons, List.take_zero, List.drop_zero, and_self, List.append_assoc, List.length_append, Int.reduceLT, Int.reduceLE, Int.toNat_zero, Int.reduceToNat, Int.cast_ofNat_Int, Int.natCast_zero, Int.natCast_one, Int.reduceAdd, List.map_append, Option.bind_some, dk0, db0, dk9, d127, hz, shr1, hs1, ha1, hm1, hxor, e0, ek1, hgs, resS]
    · have dk0 : decide (0 < (k : Int)) = false := by simp; omega
      have dk9 : decide ((k : Int) = 9) = false := by simp; omega
      have hcn : canon ((bs.drop i).take (k + 1)) = true := by rw [hcl]; simp [hk0]; omega
      rw [if_pos hcn] at hgs
      simp only [go_sem, Nat.reduceEqDiff, reduceIte, ↓reduceIte, Nat.reduceAdd, List.replicate_succ, List.replicate_zero, List.set_cons_zero, List.set_cons_succ, List.length_cons, List.length_nil, Nat.reduceLT, Nat.lt_add_one, ne_eq, Int.reduceEq, not_false_eq_true, Option.map_some, Nat.reduceLeDiff, Nat.zero_lt_succ, List.map_cons, List.map_nil, List.nil_append, List.cons_append, List.append_nil, bytesOf, List.take_succ_cons, List.take_zero, List.drop_zero, and_self, List.append_assoc, List.length_append, Int.reduceLT, Int.reduceLE, Int.toNat_zero, Int.reduceToNat, Int.cast_ofNat_Int, Int.natCast_zero, Int.natCast_one, Int.reduceAdd, List.map_append, Option.bind_some, dk0, dk9, d127, hz, shr1, hs1, ha1, hm1, hxor, e0, ek1, hgs, resS]
  · have d127 : decide (127 < b) = true := by simp; omega
    have ek : wr .i64 ((k : Int) + 1) = ((k + 1 : Nat) : Int) := by rw [wr64 (by omega) (by omega)]; omega
    simp only [go_sem, Nat.reduceEqDiff, reduceIte, ↓reduceIte, Nat.reduceAdd, List.replicate_succ, List.replicate_zero, List.set_cons_zero, List.set_cons_succ, List.length_cons, List.length_nil, Nat.reduceLT, Nat.lt_add_one, ne_eq, Int.reduceEq, not_false_eq_true, Option.map_some, Nat.reduceLeDiff, Nat.zero_lt_succ, List.map_cons, List.map_nil, List.nil_append, List.cons_append, List.append_nil, bytesOf, List.take_succ_cons, List.take_zero, List.drop_zero, and_self, List.append_assoc, List.length_append, Int.reduceLT, Int.reduceLE, Int.toNat_zero, Int.reduceToNat, Int.cast_ofNat_Int, Int.natCast_zero, Int.natCast_one, Int.reduceAdd, List.map_append, Option.bind_some, d127, ek]
    exact ⟨k + 1, ⟨by omega, hg.more hbk (by omega), rfl⟩, by omega⟩
end Go.Proofs.Ytmbggdfceecojaa.Cd

/- Images of codes: bytes compared and marked; what an image is. -/
set_option linter.all false
namespace Go.Proofs.Ytmbggdfceecojaa.Cd
open Go.AM Mc Ho

theorem eqByteS (xs ys : List Int) (hx : xs.length ≤ maxL) (hy : ys.length ≤ maxL) : ACall Try.prog 23 [.p (.l (rowsK .u8 xs)), .p (.l (rowsK .u8 ys))] [] (fun r H => r = .p (.b (decide (xs = ys)))) := by
  refine call23 (by simp) ?_
  simp only [go_sem, Nat.reduceEqDiff, reduceIte, ↓reduceIte, Nat.reduceAdd, mc23, mr23, rowsK_len]
  intro _ _
  refine condK_split _ (fun hc => ?_) (fun hc => ?_)
  · simp only [go_sem, Nat.reduceEqDiff, reduceIte, ↓reduceIte, Nat.reduceAdd]
    have : xs ≠ ys := by rintro rfl; simp at hc
    simp [this]
  · have hl : xs.length = ys.length := by simp at hc; omega
    simp only [go_sem, Nat.reduceEqDiff, reduceIte, ↓reduceIte, Nat.reduceAdd]
    refine ⟨Nat, [0, 1, 4, 5], fun i st => i ≤ xs.length ∧ xs.take i = ys.take i ∧ st = ⟨[(0, .p (.l (rowsK .u8 xs))), (1, .p (.l (rowsK .u8 ys))), (4, .p (.b false)), (5, .p (.i .i64 i))], [], []⟩, fun i => xs.length - i, ⟨0, ?_⟩, ?_⟩
    · simp only [go_sem, Nat.reduceEqDiff, reduceIte, ↓reduceIte, Nat.reduceAdd]
      exact ⟨Nat.zero_le _, rfl, rfl⟩
    · rintro i st ⟨hi, ht, rfl⟩
      simp only [go_sem, Nat.reduceEqDiff, reduceIte, ↓reduceIte, Nat.reduceAdd, rowsK_len]
      intro _
      refine condK_split _ (fun hc => ?_) (fun hc => ?_)
      · have hil : i < xs.length := by simpa using hc
        have hiy : i < ys.length := by omega
        simp only [go_sem, Nat.reduceEqDiff, reduceIte, ↓reduceIte, Nat.reduceAdd]
        (refine drw_same ?_; simp only [go_sem, Nat.reduceEqDiff, reduceIte, ↓reduceIte, Nat.reduceAdd, rowsK_at _ _ hil, rowsK_at _ _ hiy])
        refine condK_split _ (fun hd => ?_) (fun hd => ?_)
        · simp only [go_sem, Nat.reduceEqDiff, reduceIte, ↓reduceIte, Nat.reduceAdd]
          have : xs ≠ ys := by rintro rfl; simp at hd
          simp [this]
        · simp only [go_sem, Nat.reduceEqDiff, reduceIte, ↓reduceIte, Nat.reduceAdd]
          have he : xs[i] = ys[i] := by simpa using hd
          refine ⟨i + 1, ⟨hil, ?_, ?_⟩, by omega⟩
          · rw [List.take_succ, List.take_succ, ht, List.getElem?_eq_getElem hil, List.getElem?_eq_getElem hiy, he]
          · rw [wr1 hil hx]
      · have hil : i = xs.length := by simp at hc; omega
        simp only [go_sem, Nat.reduceEqDiff, reduceIte, ↓reduceIte, Nat.reduceAdd]
        subst hil
        have : xs = ys := by
          rw [List.take_length, hl, List.take_length] at ht
          exact ht
        simp [this]
theorem eqByteS_any (xs ys : List Int) (hx : xs.length ≤ maxL) (hy : ys.length ≤ maxL) {H : List AO} {a b : AV} (ha : Lent H a (.p (.l (rowsK .u8 xs)))) (hb : Lent H b (.p (.l (rowsK .u8 ys)))) : ACall Try.prog 23 [a, b] H (fun r H' => r = .p (.b (decide (xs = ys))) ∧ H' = H) :=
  (acall_lend (eqByteS xs ys hx hy) (fun r H' h => by subst h; exact grnd_b _) (lentAll_cons ha (lentAll_cons hb (lentAll_nil _)))).mono fun r H' ⟨h1, _, h2⟩ => ⟨h2, h1⟩

/-- the pattern that marks bytes -/
def pat (k : Int) (n : Nat) : List Int := (List.range n).map fun j => wr .u8 (k + (j : Nat))
theorem markByteS {H : List AO} {id ver : Nat} (old : List (List AV)) (hid : H[id]? = some (.rows 1 ver old)) (h1 : ∀ r ∈ old, r.length = 1) (hn : old.length ≤ 100000000) (k : Int) (hk0 : 0 ≤ k) (hk : k ≤ 100000000) :
    ACall Try.prog 26 [.gs id ver 0 old.length, .p (.i .i64 k)] H (fun r H' => r = .p (.i .i64 (k + old.length)) ∧ H' = H.set id (.rows 1 ver (intR .u8 (pat k old.length)))) := by
  have hm : old.length ≤ maxL := by unfold maxL; omega
  refine call26 (by simp) ?_
  simp only [go_sem, Nat.reduceEqDiff, reduceIte, ↓reduceIte, Nat.reduceAdd, mc26, mr26]
  refine ⟨Nat, [0, 1, 4, 5], fun i st => i ≤ old.length ∧ st = ⟨[(0, .gs id ver 0 old.length), (1, .p (.i .i64 (k + i))), (4, .p (.i .i64 0)), (5, .p (.i .i64 i))], [], H.set id (.rows 1 ver (over (fun j => [.p (.i .u8 (wr .u8 (k + j)))]) old i))⟩, fun i => old.length - i, ⟨0, ?_⟩, ?_⟩
  · simp only [go_sem, Nat.reduceEqDiff, reduceIte, ↓reduceIte, Nat.reduceAdd]
    refine ⟨Nat.zero_le _, ?_⟩
    rw [over_zero]
    rw [set_same hid]; simp
  · rintro i st ⟨hi, rfl⟩
    simp only [go_sem, Nat.reduceEqDiff, reduceIte, ↓reduceIte, Nat.reduceAdd]
    intro _
    refine condK_split _ (fun hc => ?_) (fun hc => ?_)
    · have hil : i < old.length := by simpa using hc
      simp only [go_sem, Nat.reduceEqDiff, reduceIte, ↓reduceIte, Nat.reduceAdd, set_get hid, over_get _ _ hil]
      refine ⟨by simpa using hc, ?_⟩
      rw [stoR_at (over_get _ _ hil) (splice_one (h1 _ (List.getElem_mem hil)) _)]
      simp only [go_sem, Nat.reduceEqDiff, reduceIte, ↓reduceIte, Nat.reduceAdd]
      refine ⟨i + 1, ⟨hil, ?_⟩, by omega⟩
      rw [wr1 hil hm, wr64 (by omega) (by omega), List.set_set, over_set _ _ hil]
      simp only [Int.natCast_add, Int.natCast_one, Int.add_assoc]
    · have hil : i = old.length := by simp at hc; omega
      simp only [go_sem, Nat.reduceEqDiff, reduceIte, ↓reduceIte, Nat.reduceAdd]
      subst hil
      refine ⟨rfl, ?_⟩
      rw [over_all, intR, pat, List.map_map]
      rfl

end Go.Proofs.Ytmbggdfceecojaa.Cd

/- Images of codes: what an image is; by the program. -/
set_option linter.all false
namespace Go.Proofs.Ytmbggdfceecojaa.Cd
open Go.AM Mc Ho

def strI (s : List UInt8) : List Int := s.map fun c => (c.toNat : Int)
def encI (n : Int) : List Int := enc (zig n)
def insB (x : InsD) : List Int := [wr .u8 x.op, wr .u8 (wr .i64 (wr .i64 (16 * x.a) + x.b)), wr .u8 x.c] ++ encI x.n ++ encI x.text.length ++ strI x.text
def rng (n : Int) : Prop := -9223372036854775808 ≤ n ∧ n ≤ 9223372036854775807
def rngCode (c : CodeD) : Prop := (∀ n ∈ c.starts, rng n) ∧ ∀ x ∈ c.ins, rng x.n

theorem rng_len {n : Nat} (h : n ≤ maxL) : rng n := by unfold maxL at h; unfold rng; omega
theorem encI_len {n : Int} (h : rng n) : (encI n).length ≤ 10 := enc10 h.1 h.2
theorem flat_enc_len (l : List Int) (h : ∀ n ∈ l, rng n) : (l.flatMap encI).length ≤ 10 * l.length := by
  induction l with
  | nil => simp
  | cons n l ih =>
    have h1 := encI_len (h n (by simp))
    have h2 := ih (fun m hm => h m (List.mem_cons_of_mem _ hm))
    simp only [List.flatMap_cons, List.length_append, List.length_cons]; omega
theorem insB_len (x : InsD) (h : rng x.n) (ht : x.text.length ≤ maxL) : (insB x).length ≤ 23 + x.text.length := by
  have h1 := encI_len h
  have h2 := encI_len (rng_len ht)
  simp [insB, strI]; omega
theorem flat_ins_len (l : List InsD) (h : ∀ x ∈ l, rng x.n ∧ x.text.length ≤ maxL) : (l.flatMap insB).length ≤ 23 * l.length + texts l := by
  induction l with
  | nil => simp [texts]
  | cons x l ih =>
    have h1 := insB_len x (h x (by simp)).1 (h x (by simp)).2
    have h2 := ih (fun m hm => h m (List.mem_cons_of_mem _ hm))
    simp only [List.flatMap_cons, List.length_append, List.length_cons, texts]; omega
theorem texts_take_le (l : List InsD) (i : Nat) : texts (l.take i) ≤ texts l := by
  induction l generalizing i with
  | nil => simp
  | cons x l ih =>
    cases i with
    | zero => simp [texts]
    | succ i => simp [texts]; exact ih i

/-- how much room is wanted at most -/
structure Fits (c : CodeD) : Prop where
  ok : okCode c
  sm : small c
  rg : rngCode c
theorem Fits.starts {c : CodeD} (h : Fits c) (i : Nat) : ((c.starts.take i).flatMap encI).length ≤ 10485760 := by
  have h1 := flat_enc_len (c.starts.take i) (fun n hn => h.rg.1 n (List.mem_of_mem_take hn))
  have h2 := h.sm
  unfold small at h2
  have : (c.starts.take i).length ≤ c.starts.length := by simp; omega
  omega
theorem Fits.ins {c : CodeD} (h : Fits c) (i : Nat) : ((c.ins.take i).flatMap insB).length ≤ 25165824 := by
  have h1 := flat_ins_len (c.ins.take i) (fun x hx => ⟨h.rg.2 x (List.mem_of_mem_take hx), h.ok.1.2 x (List.mem_of_mem_take hx)⟩)
  have h2 := h.sm
  unfold small at h2
  have h3 : (c.ins.take i).length ≤ c.ins.length := by simp; omega
  have h4 := texts_take_le c.ins i
  omega
theorem Fits.text {c : CodeD} (h : Fits c) {x : InsD} (hx : x ∈ c.ins) : x.text.length ≤ 1048576 := by
  have key : ∀ l : List InsD, x ∈ l → x.text.length ≤ texts l := by
    intro l
    induction l with
    | nil => intro h; cases h
    | cons y l ih =>
      intro hx
      rcases List.mem_cons.1 hx with rfl | hx
      · simp [texts]
      · have := ih hx; simp [texts]; omega
  have h1 := key _ hx
  have h2 := h.sm
  unfold small at h2
  omega

theorem mark0 : ACall Try.prog 75 [] [] (fun r H' => r = .gs 0 0 0 3 ∧ H' = [.rows 1 0 (intR .u8 [77, 78, 1])]) := by
  refine call75 (by simp) ?_
  simp only [go_sem, Nat.reduceEqDiff, reduceIte, ↓reduceIte, Nat.reduceAdd, List.replicate_succ, List.replicate_zero, List.set_cons_zero, List.set_cons_succ, List.length_cons, List.length_nil, Nat.reduceLT, Nat.lt_add_one, ne_eq, Int.reduceEq, not_false_eq_true, Option.map_some, Nat.reduceLeDiff, Nat.zero_lt_succ, List.map_cons, List.map_nil, List.nil_append, List.cons_append, List.append_nil, bytesOf, List.take_succ_cons, List.take_zero, List.drop_zero, and_self, List.append_assoc, List.length_append, Int.reduceLT, Int.reduceLE, Int.toNat_zero, Int.reduceToNat, Int.cast_ofNat_Int, Int.natCast_zero, Int.natCast_one, Int.reduceAdd, List.map_append, Option.bind_some, mc75, mr75]
  rfl

end Go.Proofs.Ytmbggdfceecojaa.Cd

/- Images of codes: by the reference. -/
set_option linter.all false
namespace Go.Proofs.Ytmbggdfceecojaa.Cd
open Go.AM Mc Ho

end Go.Proofs.Ytmbggdfceecojaa.Cd

/- PutImage: the law. -/
set_option linter.all false
namespace Go.Proofs.Ytmbggdfceecojaa.Cd
open Go.AM Mc Ho

theorem eqCode_any (c d : CodeD) (hc : okCode c) (hd : okCode d) {H : List AO} {a b : AV} (ha : Lent H a (.st (c.cells.map .p))) (hb : Lent H b (.st (d.cells.map .p))) : ACall Try.prog 24 [a, b] H (fun r H' => r = .p (.b (decide (c = d))) ∧ H' = H) :=
  (acall_lend (eqCode c d hc hd) (fun r H' h => by subst h; exact grnd_b _) (lentAll_cons ha (lentAll_cons hb (lentAll_nil _)))).mono fun r H' ⟨h1, _, h2⟩ => ⟨h2, h1⟩

end Go.Proofs.Ytmbggdfceecojaa.Cd

/- An image's reader: what it does; by the reference. -/
set_option linter.all false
namespace Go.Proofs.Ytmbggdfceecojaa.Cd
open Go.AM Mc Ho

/-- a reader's place and code -/
abbrev RS := Nat × Int
def rdO (bs : List Int) (s : RS) : AO := .var [.p (.l (rowsK .u8 bs)), .p (.i .i64 s.1), .p (.i .i64 s.2)]
open Classical in
noncomputable def faultS (bs : List Int) (i : Nat) : Int := if goesOn bs i (bs.length - i) ∧ bs.length < i + 10 then 2 else 3
noncomputable def numD (bs : List Int) (s : RS) : Int × RS :=
  if s.2 = 0 then (match getS bs s.1 with | some (n, e) => (n, (e, 0)) | none => (0, (s.1, faultS bs s.1))) else (0, s)
theorem numD_z {bs : List Int} {s : RS} (h : s.2 ≠ 0) : numD bs s = (0, s) := by unfold numD; rw [if_neg h]
theorem numD_some {bs : List Int} {s : RS} (h : s.2 = 0) {n : Int} {e : Nat} (hg : getS bs s.1 = some (n, e)) : numD bs s = (n, (e, 0)) := by unfold numD; rw [if_pos h, hg]
theorem numD_none {bs : List Int} {s : RS} (h : s.2 = 0) (hg : getS bs s.1 = none) : numD bs s = (0, (s.1, faultS bs s.1)) := by unfold numD; rw [if_pos h, hg]

theorem grnd_tup (vs : List AV) (h : ∀ c ∈ vs, Grnd c) : Grnd (.tup vs) := fun θ W θ' W' v hv => by
  cases hv with
  | tup _ us hs hc => exact .tup vs us hs (fun j c u hj hu => h c (List.mem_of_getElem? hj) _ _ _ _ _ (hc j c u hj hu))
theorem grnd_resS (x : Option (Int × Nat)) : Grnd (resS x) := by
  cases x with
  | none => exact grnd_tup _ (by intro c hc; simp at hc; rcases hc with rfl | rfl; exact grnd_i _ _; exact grnd_b _)
  | some p => exact grnd_tup _ (by intro c hc; simp at hc; rcases hc with rfl | rfl | rfl; exact grnd_i _ _; exact grnd_i _ _; exact grnd_b _)
theorem specGetS (bs : List Int) (hb : isB bs) (hl : bs.length ≤ 1048576) (i : Nat) (hi : i ≤ 100000000) (H : List AO) : ACall Try.prog 138 [.p (.l (rowsK .u8 bs)), .p (.i .i64 i)] H (pureQ (resS (getS bs i)) H) :=
  (acall_lend (specGetShort bs hb hl i hi) (fun r H' h => by subst h; exact grnd_resS _) (lentAll_cons (.pure _) (lentAll_cons (.pure _) (lentAll_nil _)))).mono fun r H' ⟨h1, _, h2⟩ => ⟨h2, h1⟩
theorem implGetS (bs : List Int) (hb : isB bs) (hl : bs.length ≤ 1048576) (i : Nat) (hi : i ≤ 100000000) (H : List AO) : ACall Try.prog 141 [.p (.l (rowsK .u8 bs)), .p (.i .i64 i)] H (pureQ (resS (getS bs i)) H) :=
  (acall_lend (implGetShort bs hb hl i hi) (fun r H' h => by subst h; exact grnd_resS _) (lentAll_cons (.pure _) (lentAll_cons (.pure _) (lentAll_nil _)))).mono fun r H' ⟨h1, _, h2⟩ => ⟨h2, h1⟩
/-- a short number that is there ends among the bytes -/
theorem getS_le {bs : List Int} {i : Nat} {n : Int} {e : Nat} (hb : isB bs) (h : getS bs i = some (n, e)) : i < e ∧ e ≤ bs.length ∧ rng n := by
  unfold getS at h
  split at h
  · rename_i s hs
    split at h
    · cases h
      have hsb := takeS_sh (fun x hx => hb x (List.mem_of_mem_drop hx)) hs
      have hne := hsb.1.ne
      have hpos : 0 < s.length := List.length_pos_iff.2 hne
      have h3 : s.length ≤ (bs.drop i).length := by
        have := congrArg List.length hsb.2.2
        rw [List.length_take] at this
        omega
      rw [List.length_drop] at h3
      exact ⟨by omega, by omega, unzig_rng (Nat.mod_lt _ (by omega))⟩
    · cases h
  · cases h

structure RdOk (bs : List Int) : Prop where
  b : isB bs
  l : bs.length ≤ 200000

set_option maxHeartbeats 1000000 in
theorem specNum {bs : List Int} (hB : RdOk bs) {s : RS} (hs : s.1 ≤ bs.length) {H : List AO} {id : Nat} (hid : H[id]? = some (rdO bs s)) :
    ACall Try.prog 86 [.ptr id 0] H (fun r H' => r = .p (.i .i64 (numD bs s).1) ∧ H' = H.set id (rdO bs (numD bs s).2)) := by
  obtain ⟨hb, hl⟩ := hB
  obtain ⟨i, c⟩ := s
  simp only at hs
  rw [rdO] at hid
  refine call86 (by simp) ?_
  simp only [go_sem, Nat.reduceEqDiff, reduceIte, ↓reduceIte, Nat.reduceAdd, List.replicate_succ, List.replicate_zero, List.set_cons_zero, List.set_cons_succ, List.length_cons, List.length_nil, Nat.reduceLT, Nat.lt_add_one, ne_eq, Int.reduceEq, not_false_eq_true, Option.map_some, Nat.reduceLeDiff, Nat.zero_lt_succ, List.map_cons, List.map_nil, List.nil_append, List.cons_append, List.append_nil, bytesOf, List.take_succ_cons, List.take_zero, List.drop_zero, and_self, List.append_assoc, List.length_append, Int.reduceLT, Int.reduceLE, Int.toNat_zero, Int.reduceToNat, Int.cast_ofNat_Int, Int.natCast_zero, Int.natCast_one, Int.reduceAdd, List.map_append, Option.bind_some, mc86, mr86, hid]
  by_cases hc : c = 0
  case neg =>
    have dc : (!decide (c = 0)) = true := by simp [hc]
    rw [numD_z hc]
    simp only [go_sem, Nat.reduceEqDiff, reduceIte, ↓reduceIte, Nat.reduceAdd, List.replicate_succ, List.replicate_zero, List.set_cons_zero, List.set_cons_succ, List.length_cons, List.length_nil, Nat.reduceLT, Nat.lt_add_one, ne_eq, Int.reduceEq, not_false_eq_true, Option.map_some, Nat.reduceLeDiff, Nat.zero_lt_succ, List.map_cons, List.map_nil, List.nil_append, List.cons_append, List.append_nil, bytesOf, List.take_succ_cons, List.take_zero, List.drop_zero, and_self, List.append_assoc, List.length_append, Int.reduceLT, Int.reduceLE, Int.toNat_zero, Int.reduceToNat, Int.cast_ofNat_Int, Int.natCast_zero, Int.natCast_one, Int.reduceAdd, List.map_append, Option.bind_some, dc]
    rw [rdO, set_same hid]
  subst hc
  simp only [go_sem, Nat.reduceEqDiff, reduceIte, ↓reduceIte, Nat.reduceAdd, List.replicate_succ, List.replicate_zero, List.set_cons_zero, List.set_cons_succ, List.length_cons, List.length_nil, Nat.reduceLT, Nat.lt_add_one, ne_eq, Int.reduceEq, not_false_eq_true, Option.map_some, Nat.reduceLeDiff, Nat.zero_lt_succ, List.map_cons, List.map_nil, List.nil_append, List.cons_append, List.append_nil, bytesOf, List.take_succ_cons, List.take_zero, List.drop_zero, and_self, List.append_assoc, List.length_append, Int.reduceLT, Int.reduceLE, Int.toNat_zero, Int.reduceToNat, Int.cast_ofNat_Int, Int.natCast_zero, Int.natCast_one, Int.reduceAdd, List.map_append, Option.bind_some]
  refine drw_same ?_
  simp only [go_sem, Nat.reduceEqDiff, reduceIte, ↓reduceIte, Nat.reduceAdd, List.replicate_succ, List.replicate_zero, List.set_cons_zero, List.set_cons_succ, List.length_cons, List.length_nil, Nat.reduceLT, Nat.lt_add_one, ne_eq, Int.reduceEq, not_false_eq_true, Option.map_some, Nat.reduceLeDiff, Nat.zero_lt_succ, List.map_cons, List.map_nil, List.nil_append, List.cons_append, List.append_nil, bytesOf, List.take_succ_cons, List.take_zero, List.drop_zero, and_self, List.append_assoc, List.length_append, Int.reduceLT, Int.reduceLE, Int.toNat_zero, Int.reduceToNat, Int.cast_ofNat_Int, Int.natCast_zero, Int.natCast_one, Int.reduceAdd, List.map_append, Option.bind_some, hid]
  refine pcall_pure (fun A => specGetS bs hb (by omega) i (by omega) _) (Hext.refl _) ?_
  cases hg : getS bs i with
  | some p =>
    obtain ⟨n, e⟩ := p
    rw [numD_some rfl hg]
    simp only [go_sem, Nat.reduceEqDiff, reduceIte, ↓reduceIte, Nat.reduceAdd, List.replicate_succ, List.replicate_zero, List.set_cons_zero, List.set_cons_succ, List.length_cons, List.length_nil, Nat.reduceLT, Nat.lt_add_one, ne_eq, Int.reduceEq, not_false_eq_true, Option.map_some, Nat.reduceLeDiff, Nat.zero_lt_succ, List.map_cons, List.map_nil, List.nil_append, List.cons_append, List.append_nil, bytesOf, List.take_succ_cons, List.take_zero, List.drop_zero, and_self, List.append_assoc, List.length_append, Int.reduceLT, Int.reduceLE, Int.toNat_zero, Int.reduceToNat, Int.cast_ofNat_Int, Int.natCast_zero, Int.natCast_one, Int.reduceAdd, List.map_append, Option.bind_some, resS, hid, rdO]
  | none =>
    rw [numD_none rfl hg]
    simp only [go_sem, Nat.reduceEqDiff, reduceIte, ↓reduceIte, Nat.reduceAdd, List.replicate_succ, List.replicate_zero, List.set_cons_zero, List.set_cons_succ, List.length_cons, List.length_nil, Nat.reduceLT, Nat.lt_add_one, ne_eq, Int.reduceEq, not_false_eq_true, Option.map_some, Nat.reduceLeDiff, Nat.zero_lt_succ, List.map_cons, List.map_nil, List.nil_append, List.cons_append, List.append_nil, bytesOf, List.take_succ_cons, List.take_zero, List.drop_zero, and_self, List.append_assoc, List.length_append, Int.reduceLT, Int.reduceLE, Int.toNat_zero, Int.reduceToNat, Int.cast_ofNat_Int, Int.natCast_zero, Int.natCast_one, Int.reduceAdd, List.map_append, Option.bind_some, resS, hid, set_get hid]
    have hi3 : (H.set id (.var [.p (.l (rowsK .u8 bs)), .p (.i .i64 i), .p (.i .i64 3)]))[id]? = some (.var [.p (.l (rowsK .u8 bs)), .p (.i .i64 i), .p (.i .i64 3)]) := set_get hid
    refine ⟨Nat, [0, 2, 3, 4, 5, 6], fun k st => i + k ≤ bs.length ∧ k ≤ 10 ∧ goesOn bs i k ∧ st = ⟨[(0, .ptr id 0), (2, .p (.i .i64 0)), (3, .p (.i .i64 0)), (4, .p (.i .i64 0)), (5, .p (.b false)), (6, .p (.i .i64 ((i + k : Nat) : Int)))], [], H.set id (.var [.p (.l (rowsK .u8 bs)), .p (.i .i64 i), .p (.i .i64 3)])⟩, fun k => 10 - k, ⟨0, ?_⟩, ?_⟩
    · simp only [go_sem, Nat.reduceEqDiff, reduceIte, ↓reduceIte, Nat.reduceAdd, List.replicate_succ, List.replicate_zero, List.set_cons_zero, List.set_cons_succ, List.length_cons, List.length_nil, Nat.reduceLT, Nat.lt_add_one, ne_eq, Int.reduceEq, not_false_eq_true, Option.map_some, Nat.reduceLeDiff, Nat.zero_lt_succ, List.map_cons, List.map_nil, List.nil_append, List.cons_append, List.append_nil, bytesOf, List.take_succ_cons, List.take_zero, List.drop_zero, and_self, List.append_assoc, List.length_append, Int.reduceLT, Int.reduceLE, Int.toNat_zero, Int.reduceToNat, Int.cast_ofNat_Int, Int.natCast_zero, Int.natCast_one, Int.reduceAdd, List.map_append, Option.bind_some]
      exact ⟨by omega, fun j hj => absurd hj (Nat.not_lt_zero _), rfl⟩
    rintro k st ⟨hik, hk, hgo, rfl⟩
    have ei : wr .i64 ((i : Int) + 10) = ((i + 10 : Nat) : Int) := by rw [wr64 (by omega) (by omega)]; omega
    have fin : ∀ f : Int, faultS bs i = f → H.set id (AO.var [.p (.l (rowsK .u8 bs)), .p (.i .i64 i), .p (.i .i64 f)]) = H.set id (rdO bs (i, faultS bs i)) := fun f hf => by rw [hf]; rfl
    simp only [go_sem, Nat.reduceEqDiff, reduceIte, ↓reduceIte, Nat.reduceAdd, List.replicate_succ, List.replicate_zero, List.set_cons_zero, List.set_cons_succ, List.length_cons, List.length_nil, Nat.reduceLT, Nat.lt_add_one, ne_eq, Int.reduceEq, not_false_eq_true, Option.map_some, Nat.reduceLeDiff, Nat.zero_lt_succ, List.map_cons, List.map_nil, List.nil_append, List.cons_append, List.append_nil, bytesOf, List.take_succ_cons, List.take_zero, List.drop_zero, and_self, List.append_assoc, List.length_append, Int.reduceLT, Int.reduceLE, Int.toNat_zero, Int.reduceToNat, Int.cast_ofNat_Int, Int.natCast_zero, Int.natCast_one, Int.reduceAdd, List.map_append, Option.bind_some, hi3, rowsK_len]
    intro _
    by_cases hlt : i + k < bs.length
    · have dl : decide (((i + k : Nat) : Int) < (bs.length : Int)) = true := by simp; omega
      have de : decide (((i + k : Nat) : Int) = (bs.length : Int)) = false := by simp; omega
      by_cases h10 : k < 10
      · have d2 : decide (((i + k : Nat) : Int) < ((i + 10 : Nat) : Int)) = true := by simp; omega
        obtain ⟨b, hbk⟩ : ∃ b, bs[i + k]? = some b := ⟨_, List.getElem?_eq_getElem hlt⟩
        have hrow : (rowsK .u8 bs)[i + k]? = some [.i .u8 b] := by simp [rowsK, hbk]
        by_cases h128 : 128 ≤ b
        · have d3 : decide (128 ≤ b) = true := by simp [h128]
          have ek : wr .i64 (((i + k : Nat) : Int) + 1) = ((i + (k + 1) : Nat) : Int) := by rw [wr64 (by omega) (by omega)]; omega
          simp only [go_sem, Nat.reduceEqDiff, reduceIte, ↓reduceIte, Nat.reduceAdd, List.replicate_succ, List.replicate_zero, List.set_cons_zero, List.set_cons_succ, List.length_cons, List.length_nil, Nat.reduceLT, Nat.lt_add_one, ne_eq, Int.reduceEq, not_false_eq_true, Option.map_some, Nat.reduceLeDiff, Nat.zero_lt_succ, List.map_cons, List.map_nil, List.nil_append, List.cons_append, List.append_nil, bytesOf, List.take_succ_cons, List.take_zero, List.drop_zero, and_self, List.append_assoc, List.length_append, Int.reduceLT, Int.reduceLE, Int.toNat_zero, Int.reduceToNat, Int.cast_ofNat_Int, Int.natCast_zero, Int.natCast_one, Int.reduceAdd, List.map_append, Option.bind_some, dl, hi3, ei, d2, rowsK_len, hrow, Int.toNat_natCast, d3, ek]
          exact ⟨k + 1, ⟨by omega, by omega, hgo.more hbk h128, rfl⟩, by omega⟩
        · have d3 : decide (128 ≤ b) = false := by simp [h128]
          simp only [go_sem, Nat.reduceEqDiff, reduceIte, ↓reduceIte, Nat.reduceAdd, List.replicate_succ, List.replicate_zero, List.set_cons_zero, List.set_cons_succ, List.length_cons, List.length_nil, Nat.reduceLT, Nat.lt_add_one, ne_eq, Int.reduceEq, not_false_eq_true, Option.map_some, Nat.reduceLeDiff, Nat.zero_lt_succ, List.map_cons, List.map_nil, List.nil_append, List.cons_append, List.append_nil, bytesOf, List.take_succ_cons, List.take_zero, List.drop_zero, and_self, List.append_assoc, List.length_append, Int.reduceLT, Int.reduceLE, Int.toNat_zero, Int.reduceToNat, Int.cast_ofNat_Int, Int.natCast_zero, Int.natCast_one, Int.reduceAdd, List.map_append, Option.bind_some, dl, hi3, ei, d2, rowsK_len, hrow, Int.toNat_natCast, d3]
          intro _
          simp only [go_sem, Nat.reduceEqDiff, reduceIte, ↓reduceIte, Nat.reduceAdd, List.replicate_succ, List.replicate_zero, List.set_cons_zero, List.set_cons_succ, List.length_cons, List.length_nil, Nat.reduceLT, Nat.lt_add_one, ne_eq, Int.reduceEq, not_false_eq_true, Option.map_some, Nat.reduceLeDiff, Nat.zero_lt_succ, List.map_cons, List.map_nil, List.nil_append, List.cons_append, List.append_nil, bytesOf, List.take_succ_cons, List.take_zero, List.drop_zero, and_self, List.append_assoc, List.length_append, Int.reduceLT, Int.reduceLE, Int.toNat_zero, Int.reduceToNat, Int.cast_ofNat_Int, Int.natCast_zero, Int.natCast_one, Int.reduceAdd, List.map_append, Option.bind_some, de, hi3]
          refine fin 3 ?_
          unfold faultS
          rw [if_neg]
          rintro ⟨h1, h2⟩
          obtain ⟨b', hb', hge⟩ := h1 k (by omega)
          rw [hbk] at hb'; cases hb'
          exact h128 hge
      · have d2 : decide (((i + k : Nat) : Int) < ((i + 10 : Nat) : Int)) = false := by simp; omega
        simp only [go_sem, Nat.reduceEqDiff, reduceIte, ↓reduceIte, Nat.reduceAdd, List.replicate_succ, List.replicate_zero, List.set_cons_zero, List.set_cons_succ, List.length_cons, List.length_nil, Nat.reduceLT, Nat.lt_add_one, ne_eq, Int.reduceEq, not_false_eq_true, Option.map_some, Nat.reduceLeDiff, Nat.zero_lt_succ, List.map_cons, List.map_nil, List.nil_append, List.cons_append, List.append_nil, bytesOf, List.take_succ_cons, List.take_zero, List.drop_zero, and_self, List.append_assoc, List.length_append, Int.reduceLT, Int.reduceLE, Int.toNat_zero, Int.reduceToNat, Int.cast_ofNat_Int, Int.natCast_zero, Int.natCast_one, Int.reduceAdd, List.map_append, Option.bind_some, dl, hi3, ei, d2, rowsK_len]
        intro _
        simp only [go_sem, Nat.reduceEqDiff, reduceIte, ↓reduceIte, Nat.reduceAdd, List.replicate_succ, List.replicate_zero, List.set_cons_zero, List.set_cons_succ, List.length_cons, List.length_nil, Nat.reduceLT, Nat.lt_add_one, ne_eq, Int.reduceEq, not_false_eq_true, Option.map_some, Nat.reduceLeDiff, Nat.zero_lt_succ, List.map_cons, List.map_nil, List.nil_append, List.cons_append, List.append_nil, bytesOf, List.take_succ_cons, List.take_zero, List.drop_zero, and_self, List.append_assoc, List.length_append, Int.reduceLT, Int.reduceLE, Int.toNat_zero, Int.reduceToNat, Int.cast_ofNat_Int, Int.natCast_zero, Int.natCast_one, Int.reduceAdd, List.map_append, Option.bind_some, de, hi3]
        refine fin 3 ?_
        unfold faultS
        rw [if_neg]
        rintro ⟨h1, h2⟩
        omega
    · have dl : decide (((i + k : Nat) : Int) < (bs.length : Int)) = false := by simp; omega
      have de : decide (((i + k : Nat) : Int) = (bs.length : Int)) = true := by simp; omega
      simp only [go_sem, Nat.reduceEqDiff, reduceIte, ↓reduceIte, Nat.reduceAdd, List.replicate_succ, List.replicate_zero, List.set_cons_zero, List.set_cons_succ, List.length_cons, List.length_nil, Nat.reduceLT, Nat.lt_add_one, ne_eq, Int.reduceEq, not_false_eq_true, Option.map_some, Nat.reduceLeDiff, Nat.zero_lt_succ, List.map_cons, List.map_nil, List.nil_append, List.cons_append, List.append_nil, bytesOf, List.take_succ_cons, List.take_zero, List.drop_zero, and_self, List.append_assoc, List.length_append, Int.reduceLT, Int.reduceLE, Int.toNat_zero, Int.reduceToNat, Int.cast_ofNat_Int, Int.natCast_zero, Int.natCast_one, Int.reduceAdd, List.map_append, Option.bind_some, dl, hi3, rowsK_len]
      intro _
      by_cases h10 : k < 10
      · have d2 : decide (((i + k : Nat) : Int) < ((i + 10 : Nat) : Int)) = true := by simp; omega
        simp only [go_sem, Nat.reduceEqDiff, reduceIte, ↓reduceIte, Nat.reduceAdd, List.replicate_succ, List.replicate_zero, List.set_cons_zero, List.set_cons_succ, List.length_cons, List.length_nil, Nat.reduceLT, Nat.lt_add_one, ne_eq, Int.reduceEq, not_false_eq_true, Option.map_some, Nat.reduceLeDiff, Nat.zero_lt_succ, List.map_cons, List.map_nil, List.nil_append, List.cons_append, List.append_nil, bytesOf, List.take_succ_cons, List.take_zero, List.drop_zero, and_self, List.append_assoc, List.length_append, Int.reduceLT, Int.reduceLE, Int.toNat_zero, Int.reduceToNat, Int.cast_ofNat_Int, Int.natCast_zero, Int.natCast_one, Int.reduceAdd, List.map_append, Option.bind_some, de, hi3, ei, d2, List.set_set]
        refine fin 2 ?_
        unfold faultS
        rw [if_pos]
        refine ⟨?_, by omega⟩
        rw [show bs.length - i = k by omega]; exact hgo
      · have d2 : decide (((i + k : Nat) : Int) < ((i + 10 : Nat) : Int)) = false := by simp; omega
        simp only [go_sem, Nat.reduceEqDiff, reduceIte, ↓reduceIte, Nat.reduceAdd, List.replicate_succ, List.replicate_zero, List.set_cons_zero, List.set_cons_succ, List.length_cons, List.length_nil, Nat.reduceLT, Nat.lt_add_one, ne_eq, Int.reduceEq, not_false_eq_true, Option.map_some, Nat.reduceLeDiff, Nat.zero_lt_succ, List.map_cons, List.map_nil, List.nil_append, List.cons_append, List.append_nil, bytesOf, List.take_succ_cons, List.take_zero, List.drop_zero, and_self, List.append_assoc, List.length_append, Int.reduceLT, Int.reduceLE, Int.toNat_zero, Int.reduceToNat, Int.cast_ofNat_Int, Int.natCast_zero, Int.natCast_one, Int.reduceAdd, List.map_append, Option.bind_some, de, hi3, ei, d2]
        refine fin 3 ?_
        unfold faultS
        rw [if_neg]
        rintro ⟨h1, h2⟩
        omega
end Go.Proofs.Ytmbggdfceecojaa.Cd

/- An image's reader: counts, bytes, by the reference. -/
set_option linter.all false
namespace Go.Proofs.Ytmbggdfceecojaa.Cd
open Go.AM Mc Ho

noncomputable def cntS (bs : List Int) (s : RS) : Int × RS :=
  if (numD bs s).2.2 = 0 then (if inD (numD bs s).1 0 200000 = true then numD bs s else (0, ((numD bs s).2.1, 3))) else (0, (numD bs s).2)
noncomputable def cntI (bs : List Int) (s : RS) : Int × RS :=
  if (numD bs s).2.2 = 0 then (if inD (numD bs s).1 0 200000 = true then numD bs s else ((numD bs s).1, ((numD bs s).2.1, 3))) else numD bs s
def byteD (bs : List Int) (s : RS) : Int × RS :=
  if s.2 = 0 then (match bs[s.1]? with | some b => (b, (s.1 + 1, 0)) | none => (0, (s.1, 2))) else (0, s)

theorem numD_le {bs : List Int} (hb : isB bs) {s : RS} (hs : s.1 ≤ bs.length) : (numD bs s).2.1 ≤ bs.length := by
  unfold numD
  split
  · split
    · rename_i h; exact (getS_le hb h).2.1
    · exact hs
  · exact hs

set_option maxHeartbeats 1000000 in
theorem specCount {bs : List Int} (hB : RdOk bs) {s : RS} (hs : s.1 ≤ bs.length) {H : List AO} {id : Nat} (hid : H[id]? = some (rdO bs s)) :
    ACall Try.prog 85 [.ptr id 0] H (fun r H' => r = .p (.i .i64 (cntS bs s).1) ∧ H' = H.set id (rdO bs (cntS bs s).2)) := by
  refine call85 (by simp) ?_
  simp only [go_sem, Nat.reduceEqDiff, reduceIte, ↓reduceIte, Nat.reduceAdd, List.replicate_succ, List.replicate_zero, List.set_cons_zero, List.set_cons_succ, List.length_cons, List.length_nil, Nat.reduceLT, Nat.lt_add_one, ne_eq, Int.reduceEq, not_false_eq_true, Option.map_some, Nat.reduceLeDiff, Nat.zero_lt_succ, List.map_cons, List.map_nil, List.nil_append, List.cons_append, List.append_nil, bytesOf, List.take_succ_cons, List.take_zero, List.drop_zero, and_self, List.append_assoc, List.length_append, Int.reduceLT, Int.reduceLE, Int.toNat_zero, Int.reduceToNat, Int.cast_ofNat_Int, Int.natCast_zero, Int.natCast_one, Int.reduceAdd, List.map_append, Option.bind_some, mc85, mr85]
  refine (specNum hB hs hid).mono ?_
  rintro r H' ⟨rfl, rfl⟩
  unfold cntS
  generalize numD bs s = x
  obtain ⟨n, a, c⟩ := x
  have h2 : (H.set id (rdO bs (a, c)))[id]? = some (.var [.p (.l (rowsK .u8 bs)), .p (.i .i64 a), .p (.i .i64 c)]) := set_get hid
  simp only [go_sem, Nat.reduceEqDiff, reduceIte, ↓reduceIte, Nat.reduceAdd, List.replicate_succ, List.replicate_zero, List.set_cons_zero, List.set_cons_succ, List.length_cons, List.length_nil, Nat.reduceLT, Nat.lt_add_one, ne_eq, Int.reduceEq, not_false_eq_true, Option.map_some, Nat.reduceLeDiff, Nat.zero_lt_succ, List.map_cons, List.map_nil, List.nil_append, List.cons_append, List.append_nil, bytesOf, List.take_succ_cons, List.take_zero, List.drop_zero, and_self, List.append_assoc, List.length_append, Int.reduceLT, Int.reduceLE, Int.toNat_zero, Int.reduceToNat, Int.cast_ofNat_Int, Int.natCast_zero, Int.natCast_one, Int.reduceAdd, List.map_append, Option.bind_some, h2]
  by_cases hc : c = 0
  case neg =>
    have dc : decide (c = 0) = false := by simp [hc]
    simp only [go_sem, Nat.reduceEqDiff, reduceIte, ↓reduceIte, Nat.reduceAdd, List.replicate_succ, List.replicate_zero, List.set_cons_zero, List.set_cons_succ, List.length_cons, List.length_nil, Nat.reduceLT, Nat.lt_add_one, ne_eq, Int.reduceEq, not_false_eq_true, Option.map_some, Nat.reduceLeDiff, Nat.zero_lt_succ, List.map_cons, List.map_nil, List.nil_append, List.cons_append, List.append_nil, bytesOf, List.take_succ_cons, List.take_zero, List.drop_zero, and_self, List.append_assoc, List.length_append, Int.reduceLT, Int.reduceLE, Int.toNat_zero, Int.reduceToNat, Int.cast_ofNat_Int, Int.natCast_zero, Int.natCast_one, Int.reduceAdd, List.map_append, Option.bind_some, dc, h2, hc, Bool.not_false]
  subst hc
  simp only [go_sem, Nat.reduceEqDiff, reduceIte, ↓reduceIte, Nat.reduceAdd, List.replicate_succ, List.replicate_zero, List.set_cons_zero, List.set_cons_succ, List.length_cons, List.length_nil, Nat.reduceLT, Nat.lt_add_one, ne_eq, Int.reduceEq, not_false_eq_true, Option.map_some, Nat.reduceLeDiff, Nat.zero_lt_succ, List.map_cons, List.map_nil, List.nil_append, List.cons_append, List.append_nil, bytesOf, List.take_succ_cons, List.take_zero, List.drop_zero, and_self, List.append_assoc, List.length_append, Int.reduceLT, Int.reduceLE, Int.toNat_zero, Int.reduceToNat, Int.cast_ofNat_Int, Int.natCast_zero, Int.natCast_one, Int.reduceAdd, List.map_append, Option.bind_some, h2]
  refine (l1In_any _ _ _).mono ?_
  rintro r H' ⟨rfl, rfl⟩
  by_cases hr : inD n 0 200000 = true
  · simp only [go_sem, Nat.reduceEqDiff, reduceIte, ↓reduceIte, Nat.reduceAdd, List.replicate_succ, List.replicate_zero, List.set_cons_zero, List.set_cons_succ, List.length_cons, List.length_nil, Nat.reduceLT, Nat.lt_add_one, ne_eq, Int.reduceEq, not_false_eq_true, Option.map_some, Nat.reduceLeDiff, Nat.zero_lt_succ, List.map_cons, List.map_nil, List.nil_append, List.cons_append, List.append_nil, bytesOf, List.take_succ_cons, List.take_zero, List.drop_zero, and_self, List.append_assoc, List.length_append, Int.reduceLT, Int.reduceLE, Int.toNat_zero, Int.reduceToNat, Int.cast_ofNat_Int, Int.natCast_zero, Int.natCast_one, Int.reduceAdd, List.map_append, Option.bind_some, hr, h2, Bool.not_true]
  · have hr' : inD n 0 200000 = false := by simpa using hr
    simp only [go_sem, Nat.reduceEqDiff, reduceIte, ↓reduceIte, Nat.reduceAdd, List.replicate_succ, List.replicate_zero, List.set_cons_zero, List.set_cons_succ, List.length_cons, List.length_nil, Nat.reduceLT, Nat.lt_add_one, ne_eq, Int.reduceEq, not_false_eq_true, Option.map_some, Nat.reduceLeDiff, Nat.zero_lt_succ, List.map_cons, List.map_nil, List.nil_append, List.cons_append, List.append_nil, bytesOf, List.take_succ_cons, List.take_zero, List.drop_zero, and_self, List.append_assoc, List.length_append, Int.reduceLT, Int.reduceLE, Int.toNat_zero, Int.reduceToNat, Int.cast_ofNat_Int, Int.natCast_zero, Int.natCast_one, Int.reduceAdd, List.map_append, Option.bind_some, hr', h2, Bool.not_false, set_get hid, List.set_set]
    simp [rdO]

set_option maxHeartbeats 1000000 in
theorem specByte {bs : List Int} (hB : RdOk bs) {s : RS} (hs : s.1 ≤ bs.length) {H : List AO} {id : Nat} (hid : H[id]? = some (rdO bs s)) :
    ACall Try.prog 139 [.ptr id 0] H (fun r H' => r = .p (.i .i64 (byteD bs s).1) ∧ H' = H.set id (rdO bs (byteD bs s).2)) := by
  obtain ⟨hb, hl⟩ := hB
  obtain ⟨i, c⟩ := s
  simp only at hs
  rw [rdO] at hid
  refine call139 (by simp) ?_
  simp only [go_sem, Nat.reduceEqDiff, reduceIte, ↓reduceIte, Nat.reduceAdd, List.replicate_succ, List.replicate_zero, List.set_cons_zero, List.set_cons_succ, List.length_cons, List.length_nil, Nat.reduceLT, Nat.lt_add_one, ne_eq, Int.reduceEq, not_false_eq_true, Option.map_some, Nat.reduceLeDiff, Nat.zero_lt_succ, List.map_cons, List.map_nil, List.nil_append, List.cons_append, List.append_nil, bytesOf, List.take_succ_cons, List.take_zero, List.drop_zero, and_self, List.append_assoc, List.length_append, Int.reduceLT, Int.reduceLE, Int.toNat_zero, Int.reduceToNat, Int.cast_ofNat_Int, Int.natCast_zero, Int.natCast_one, Int.reduceAdd, List.map_append, Option.bind_some, mc139, mr139, hid]
  refine drw_same ?_
  by_cases hc : c = 0
  case neg =>
    have dc : decide (c = 0) = false := by simp [hc]
    have e : byteD bs (i, c) = (0, (i, c)) := by unfold byteD; rw [if_neg hc]
    rw [e]
    simp only [go_sem, Nat.reduceEqDiff, reduceIte, ↓reduceIte, Nat.reduceAdd, List.replicate_succ, List.replicate_zero, List.set_cons_zero, List.set_cons_succ, List.length_cons, List.length_nil, Nat.reduceLT, Nat.lt_add_one, ne_eq, Int.reduceEq, not_false_eq_true, Option.map_some, Nat.reduceLeDiff, Nat.zero_lt_succ, List.map_cons, List.map_nil, List.nil_append, List.cons_append, List.append_nil, bytesOf, List.take_succ_cons, List.take_zero, List.drop_zero, and_self, List.append_assoc, List.length_append, Int.reduceLT, Int.reduceLE, Int.toNat_zero, Int.reduceToNat, Int.cast_ofNat_Int, Int.natCast_zero, Int.natCast_one, Int.reduceAdd, List.map_append, Option.bind_some, hid, dc, Bool.not_false]
    rw [rdO, set_same hid]
  subst hc
  by_cases hlt : i < bs.length
  · have dl : decide ((bs.length : Int) ≤ (i : Int)) = false := by simp; omega
    obtain ⟨b, hbk⟩ : ∃ b, bs[i]? = some b := ⟨_, List.getElem?_eq_getElem hlt⟩
    have hb2 := hb b (List.mem_of_getElem? hbk)
    have hrow : (rowsK .u8 bs)[i]? = some [.i .u8 b] := by simp [rowsK, hbk]
    have e : byteD bs (i, 0) = (b, (i + 1, 0)) := by unfold byteD; rw [if_pos rfl, hbk]
    have e1 : wr .i64 ((i : Int) + 1) = ((i + 1 : Nat) : Int) := by rw [wr64 (by omega) (by omega)]; omega
    have e2 : wr .i64 (((i + 1 : Nat) : Int) - 1) = (i : Int) := by rw [wr64 (by omega) (by omega)]; omega
    have e3 : wr .i64 b = b := wr64 (by omega) (by omega)
    rw [e]
    simp only [go_sem, Nat.reduceEqDiff, reduceIte, ↓reduceIte, Nat.reduceAdd, List.replicate_succ, List.replicate_zero, List.set_cons_zero, List.set_cons_succ, List.length_cons, List.length_nil, Nat.reduceLT, Nat.lt_add_one, ne_eq, Int.reduceEq, not_false_eq_true, Option.map_some, Nat.reduceLeDiff, Nat.zero_lt_succ, List.map_cons, List.map_nil, List.nil_append, List.cons_append, List.append_nil, bytesOf, List.take_succ_cons, List.take_zero, List.drop_zero, and_self, List.append_assoc, List.length_append, Int.reduceLT, Int.reduceLE, Int.toNat_zero, Int.reduceToNat, Int.cast_ofNat_Int, Int.natCast_zero, Int.natCast_one, Int.reduceAdd, List.map_append, Option.bind_some, hid, rowsK_len, dl, e1, set_get hid]
    refine drw_same ?_
    simp only [go_sem, Nat.reduceEqDiff, reduceIte, ↓reduceIte, Nat.reduceAdd, List.replicate_succ, List.replicate_zero, List.set_cons_zero, List.set_cons_succ, List.length_cons, List.length_nil, Nat.reduceLT, Nat.lt_add_one, ne_eq, Int.reduceEq, not_false_eq_true, Option.map_some, Nat.reduceLeDiff, Nat.zero_lt_succ, List.map_cons, List.map_nil, List.nil_append, List.cons_append, List.append_nil, bytesOf, List.take_succ_cons, List.take_zero, List.drop_zero, and_self, List.append_assoc, List.length_append, Int.reduceLT, Int.reduceLE, Int.toNat_zero, Int.reduceToNat, Int.cast_ofNat_Int, Int.natCast_zero, Int.natCast_one, Int.reduceAdd, List.map_append, Option.bind_some, set_get hid, e2, hrow, Int.toNat_natCast, e3]
    simp [rdO]
  · have dl : decide ((bs.length : Int) ≤ (i : Int)) = true := by simp; omega
    have e : byteD bs (i, 0) = (0, (i, 2)) := by unfold byteD; rw [if_pos rfl, List.getElem?_eq_none (by simp; omega)]
    rw [e]
    simp only [go_sem, Nat.reduceEqDiff, reduceIte, ↓reduceIte, Nat.reduceAdd, List.replicate_succ, List.replicate_zero, List.set_cons_zero, List.set_cons_succ, List.length_cons, List.length_nil, Nat.reduceLT, Nat.lt_add_one, ne_eq, Int.reduceEq, not_false_eq_true, Option.map_some, Nat.reduceLeDiff, Nat.zero_lt_succ, List.map_cons, List.map_nil, List.nil_append, List.cons_append, List.append_nil, bytesOf, List.take_succ_cons, List.take_zero, List.drop_zero, and_self, List.append_assoc, List.length_append, Int.reduceLT, Int.reduceLE, Int.toNat_zero, Int.reduceToNat, Int.cast_ofNat_Int, Int.natCast_zero, Int.natCast_one, Int.reduceAdd, List.map_append, Option.bind_some, hid, rowsK_len, dl, set_get hid]
    rfl
end Go.Proofs.Ytmbggdfceecojaa.Cd

/- An image's reader: instructions, by the reference. -/
set_option linter.all false
namespace Go.Proofs.Ytmbggdfceecojaa.Cd
open Go.AM Mc Ho

def strD (zs : List Int) : List UInt8 := zs.map fun z => UInt8.ofNat z.toNat
theorem bytesOf_rows (zs : List Int) : bytesOf ((rowsK .u8 zs).map (·.map AV.p)) = some (strD zs) := by
  induction zs with
  | nil => rfl
  | cons z zs ih =>
    show (bytesOf ((rowsK .u8 zs).map (·.map AV.p))).map _ = _
    rw [ih]; rfl
def insE (bs : List Int) (o ab c n : Int) (k : Int × RS) : InsD × RS :=
  if k.2.2 = 0 then
    (if (bs.length : Int) - k.2.1 < k.1 then (⟨o, ab.tdiv 16, ab.tmod 16, c, n, []⟩, (k.2.1, 2))
     else (⟨o, ab.tdiv 16, ab.tmod 16, c, n, strD ((bs.drop k.2.1).take k.1.toNat)⟩, (k.2.1 + k.1.toNat, 0)))
  else (⟨o, ab.tdiv 16, ab.tmod 16, c, n, []⟩, k.2)
noncomputable def insS (bs : List Int) (s : RS) : InsD × RS :=
  insE bs (byteD bs s).1 (byteD bs (byteD bs s).2).1 (byteD bs (byteD bs (byteD bs s).2).2).1 (numD bs (byteD bs (byteD bs (byteD bs s).2).2).2).1 (cntS bs (numD bs (byteD bs (byteD bs (byteD bs s).2).2).2).2)

theorem byteD_le {bs : List Int} {s : RS} (hs : s.1 ≤ bs.length) : (byteD bs s).2.1 ≤ bs.length := by
  unfold byteD
  split
  · split
    · rename_i h; exact (List.getElem?_eq_some_iff.1 h).1
    · exact hs
  · exact hs
theorem byteD_rng {bs : List Int} (hb : isB bs) (s : RS) : 0 ≤ (byteD bs s).1 ∧ (byteD bs s).1 < 256 := by
  unfold byteD
  split
  · split
    · rename_i b h; exact hb b (List.mem_of_getElem? h)
    · simp
  · simp
theorem cntS_le {bs : List Int} (hb : isB bs) {s : RS} (hs : s.1 ≤ bs.length) : (cntS bs s).2.1 ≤ bs.length := by
  have := numD_le hb hs
  unfold cntS
  split
  · split <;> exact this
  · exact this
theorem cntS_rng {bs : List Int} {s : RS} (h : (cntS bs s).2.2 = 0) : 0 ≤ (cntS bs s).1 ∧ (cntS bs s).1 ≤ 200000 := by
  unfold cntS at h ⊢
  split at h
  · rename_i h0
    rw [if_pos h0]
    split at h
    · rename_i h1; rw [if_pos h1]; simp [inD] at h1; omega
    · simp at h
  · rename_i h0; exact (h0 h).elim

/-- the reader's heap, with two more variables behind it -/
structure I3 (bs : List Int) (H : List AO) (id : Nat) (s : RS) (o2 o3 : AO) (H' : List AO) : Prop where
  lt : id < H.length
  eq : H' = H.set id (rdO bs s) ++ [o2, o3]
theorem I3.rd {bs H id s o2 o3 H'} (h : I3 bs H id s o2 o3 H') : H'[id]? = some (rdO bs s) := by
  rw [h.eq]; refine get_ext ?_ _; simp [h.lt]
theorem I3.g2 {bs H id s o2 o3 H'} (h : I3 bs H id s o2 o3 H') : H'[H.length]? = some o2 := by
  rw [h.eq, List.getElem?_append_right (by simp)]; simp
theorem I3.g3 {bs H id s o2 o3 H'} (h : I3 bs H id s o2 o3 H') : H'[H.length + 1]? = some o3 := by
  rw [h.eq, List.getElem?_append_right (by simp)]; simp
theorem I3.s1 {bs H id s o2 o3 H'} (h : I3 bs H id s o2 o3 H') (s' : RS) : I3 bs H id s' o2 o3 (H'.set id (rdO bs s')) := by
  refine ⟨h.lt, ?_⟩
  rw [h.eq, List.set_append_left _ _ (by simpa using h.lt), List.set_set]
theorem I3.s2 {bs H id s o2 o3 H'} (h : I3 bs H id s o2 o3 H') (o : AO) : I3 bs H id s o o3 (H'.set H.length o) := by
  refine ⟨h.lt, ?_⟩
  rw [h.eq, List.set_append_right _ _ (by simp)]; simp
theorem I3.s3 {bs H id s o2 o3 H'} (h : I3 bs H id s o2 o3 H') (o : AO) : I3 bs H id s o2 o (H'.set (H.length + 1) o) := by
  refine ⟨h.lt, ?_⟩
  rw [h.eq, List.set_append_right _ _ (by simp)]; simp
theorem I3.of {bs : List Int} {H : List AO} {id : Nat} (hlt : id < H.length) (s : RS) (o2 o3 : AO) : I3 bs H id s o2 o3 ((H ++ [o2]).set id (rdO bs s) ++ [o3]) := by
  refine ⟨hlt, ?_⟩
  rw [List.set_append_left _ _ hlt]; simp

set_option maxHeartbeats 2000000 in
theorem specIns {bs : List Int} (hB : RdOk bs) {s : RS} (hs : s.1 ≤ bs.length) {H : List AO} {id : Nat} (hid : H[id]? = some (rdO bs s)) :
    ACall Try.prog 87 [.ptr id 0] H (fun r H' => r = .st ((insS bs s).1.cells.map .p) ∧ ∃ G, H' = H.set id (rdO bs (insS bs s).2) ++ G) := by
  have hlt := get_lt hid
  have hl := hB.l
  refine call87 (by simp) ?_
  simp only [go_sem, Nat.reduceEqDiff, reduceIte, ↓reduceIte, Nat.reduceAdd, List.replicate_succ, List.replicate_zero, List.set_cons_zero, List.set_cons_succ, List.length_cons, List.length_nil, Nat.reduceLT, Nat.lt_add_one, ne_eq, Int.reduceEq, not_false_eq_true, Option.map_some, Nat.reduceLeDiff, Nat.zero_lt_succ, List.map_cons, List.map_nil, List.nil_append, List.cons_append, List.append_nil, bytesOf, List.take_succ_cons, List.take_zero, List.drop_zero, and_self, List.append_assoc, List.length_append, Int.reduceLT, Int.reduceLE, Int.toNat_zero, Int.reduceToNat, Int.cast_ofNat_Int, Int.natCast_zero, Int.natCast_one, Int.reduceAdd, List.map_append, Option.bind_some, mc87, mr87]
  refine (specByte hB hs (get_ext hid _)).mono ?_
  rintro r H1 ⟨rfl, hH1⟩
  have hl1 : H1.length = H.length + 1 := by rw [hH1]; simp
  simp only [go_sem, Nat.reduceEqDiff, reduceIte, ↓reduceIte, Nat.reduceAdd, List.replicate_succ, List.replicate_zero, List.set_cons_zero, List.set_cons_succ, List.length_cons, List.length_nil, Nat.reduceLT, Nat.lt_add_one, ne_eq, Int.reduceEq, not_false_eq_true, Option.map_some, Nat.reduceLeDiff, Nat.zero_lt_succ, List.map_cons, List.map_nil, List.nil_append, List.cons_append, List.append_nil, bytesOf, List.take_succ_cons, List.take_zero, List.drop_zero, and_self, List.append_assoc, List.length_append, Int.reduceLT, Int.reduceLE, Int.toNat_zero, Int.reduceToNat, Int.cast_ofNat_Int, Int.natCast_zero, Int.natCast_one, Int.reduceAdd, List.map_append, Option.bind_some]
  rw [hl1]
  have i3 : I3 bs H id (byteD bs s).2 (.var [.p (.i .i64 0), .p (.i .i64 0), .p (.i .i64 0), .p (.i .i64 0), .p (.i .i64 0), .p (.s [])]) (.var [.p (.i .i64 (byteD bs s).1), .p (.i .i64 0), .p (.i .i64 0), .p (.i .i64 0), .p (.i .i64 0), .p (.s [])]) (H1 ++ [.var [.p (.i .i64 (byteD bs s).1), .p (.i .i64 0), .p (.i .i64 0), .p (.i .i64 0), .p (.i .i64 0), .p (.s [])]]) := by
    rw [hH1]; exact I3.of hlt _ _ _
  generalize (H1 ++ [AO.var [.p (.i .i64 (byteD bs s).1), .p (.i .i64 0), .p (.i .i64 0), .p (.i .i64 0), .p (.i .i64 0), .p (.s [])]]) = H2 at i3 ⊢
  clear hH1 hl1
  have l1 := byteD_le hs
  unfold insS
  generalize byteD bs s = o at *
  refine (specByte hB l1 i3.rd).mono ?_
  rintro r H3 ⟨rfl, rfl⟩
  have l2 := byteD_le l1
  have r2 := byteD_rng hB.b o.2
  have i4 := i3.s1 (byteD bs o.2).2
  generalize H2.set id (rdO bs (byteD bs o.2).2) = H3 at i4 ⊢
  clear i3
  generalize byteD bs o.2 = ab at *
  have q1 : wr .i64 (ab.1.tdiv 16) = ab.1.tdiv 16 := by
    rw [Int.tdiv_eq_ediv_of_nonneg r2.1]; exact wr64 (by omega) (by omega)
  simp only [go_sem, Nat.reduceEqDiff, reduceIte, ↓reduceIte, Nat.reduceAdd, List.replicate_succ, List.replicate_zero, List.set_cons_zero, List.set_cons_succ, List.length_cons, List.length_nil, Nat.reduceLT, Nat.lt_add_one, ne_eq, Int.reduceEq, not_false_eq_true, Option.map_some, Nat.reduceLeDiff, Nat.zero_lt_succ, List.map_cons, List.map_nil, List.nil_append, List.cons_append, List.append_nil, bytesOf, List.take_succ_cons, List.take_zero, List.drop_zero, and_self, List.append_assoc, List.length_append, Int.reduceLT, Int.reduceLE, Int.toNat_zero, Int.reduceToNat, Int.cast_ofNat_Int, Int.natCast_zero, Int.natCast_one, Int.reduceAdd, List.map_append, Option.bind_some, i4.g3, set_get i4.g3, List.set_set, q1]
  refine (specByte hB l2 (i4.s3 _).rd).mono ?_
  rintro r H4 ⟨rfl, rfl⟩
  have l3 := byteD_le l2
  have i5 := (i4.s3 (.var [.p (.i .i64 o.1), .p (.i .i64 (ab.1.tdiv 16)), .p (.i .i64 (ab.1.tmod 16)), .p (.i .i64 0), .p (.i .i64 0), .p (.s [])])).s1 (byteD bs ab.2).2
  generalize (H3.set (H.length + 1) (.var [.p (.i .i64 o.1), .p (.i .i64 (ab.1.tdiv 16)), .p (.i .i64 (ab.1.tmod 16)), .p (.i .i64 0), .p (.i .i64 0), .p (.s [])])).set id (rdO bs (byteD bs ab.2).2) = H4 at i5 ⊢
  clear i4
  generalize byteD bs ab.2 = c at *
  simp only [go_sem, Nat.reduceEqDiff, reduceIte, ↓reduceIte, Nat.reduceAdd, List.replicate_succ, List.replicate_zero, List.set_cons_zero, List.set_cons_succ, List.length_cons, List.length_nil, Nat.reduceLT, Nat.lt_add_one, ne_eq, Int.reduceEq, not_false_eq_true, Option.map_some, Nat.reduceLeDiff, Nat.zero_lt_succ, List.map_cons, List.map_nil, List.nil_append, List.cons_append, List.append_nil, bytesOf, List.take_succ_cons, List.take_zero, List.drop_zero, and_self, List.append_assoc, List.length_append, Int.reduceLT, Int.reduceLE, Int.toNat_zero, Int.reduceToNat, Int.cast_ofNat_Int, Int.natCast_zero, Int.natCast_one, Int.reduceAdd, List.map_append, Option.bind_some, i5.g3, set_get i5.g3, List.set_set]
  refine (specNum hB l3 (i5.s3 _).rd).mono ?_
  rintro r H5 ⟨rfl, rfl⟩
  have l4 := numD_le hB.b l3
  have i6 := (i5.s3 (.var [.p (.i .i64 o.1), .p (.i .i64 (ab.1.tdiv 16)), .p (.i .i64 (ab.1.tmod 16)), .p (.i .i64 c.1), .p (.i .i64 0), .p (.s [])])).s1 (numD bs c.2).2
  generalize (H4.set (H.length + 1) (.var [.p (.i .i64 o.1), .p (.i .i64 (ab.1.tdiv 16)), .p (.i .i64 (ab.1.tmod 16)), .p (.i .i64 c.1), .p (.i .i64 0), .p (.s [])])).set id (rdO bs (numD bs c.2).2) = H5 at i6 ⊢
  clear i5
  generalize numD bs c.2 = n at *
  simp only [go_sem, Nat.reduceEqDiff, reduceIte, ↓reduceIte, Nat.reduceAdd, List.replicate_succ, List.replicate_zero, List.set_cons_zero, List.set_cons_succ, List.length_cons, List.length_nil, Nat.reduceLT, Nat.lt_add_one, ne_eq, Int.reduceEq, not_false_eq_true, Option.map_some, Nat.reduceLeDiff, Nat.zero_lt_succ, List.map_cons, List.map_nil, List.nil_append, List.cons_append, List.append_nil, bytesOf, List.take_succ_cons, List.take_zero, List.drop_zero, and_self, List.append_assoc, List.length_append, Int.reduceLT, Int.reduceLE, Int.toNat_zero, Int.reduceToNat, Int.cast_ofNat_Int, Int.natCast_zero, Int.natCast_one, Int.reduceAdd, List.map_append, Option.bind_some, i6.g3, set_get i6.g3, List.set_set]
  refine (specCount hB l4 (i6.s3 _).rd).mono ?_
  rintro r H6 ⟨rfl, rfl⟩
  have l5 := cntS_le hB.b l4
  have r5 := @cntS_rng bs n.2
  have i7 := (i6.s3 (.var [.p (.i .i64 o.1), .p (.i .i64 (ab.1.tdiv 16)), .p (.i .i64 (ab.1.tmod 16)), .p (.i .i64 c.1), .p (.i .i64 n.1), .p (.s [])])).s1 (cntS bs n.2).2
  generalize (H5.set (H.length + 1) (.var [.p (.i .i64 o.1), .p (.i .i64 (ab.1.tdiv 16)), .p (.i .i64 (ab.1.tmod 16)), .p (.i .i64 c.1), .p (.i .i64 n.1), .p (.s [])])).set id (rdO bs (cntS bs n.2).2) = H6 at i7 ⊢
  clear i6
  generalize cntS bs n.2 = k at *
  obtain ⟨k, a, cc⟩ := k
  simp only at l5 r5 i7
  have h7 := i7.rd
  unfold rdO at h7
  simp only [go_sem, Nat.reduceEqDiff, reduceIte, ↓reduceIte, Nat.reduceAdd, List.replicate_succ, List.replicate_zero, List.set_cons_zero, List.set_cons_succ, List.length_cons, List.length_nil, Nat.reduceLT, Nat.lt_add_one, ne_eq, Int.reduceEq, not_false_eq_true, Option.map_some, Nat.reduceLeDiff, Nat.zero_lt_succ, List.map_cons, List.map_nil, List.nil_append, List.cons_append, List.append_nil, bytesOf, List.take_succ_cons, List.take_zero, List.drop_zero, and_self, List.append_assoc, List.length_append, Int.reduceLT, Int.reduceLE, Int.toNat_zero, Int.reduceToNat, Int.cast_ofNat_Int, Int.natCast_zero, Int.natCast_one, Int.reduceAdd, List.map_append, Option.bind_some]
  refine drw_same ?_
  by_cases hcc : cc = 0
  case neg =>
    have dc : decide (cc = 0) = false := by simp [hcc]
    have e : insE bs o.1 ab.1 c.1 n.1 (k, (a, cc)) = (⟨o.1, ab.1.tdiv 16, ab.1.tmod 16, c.1, n.1, []⟩, (a, cc)) := by unfold insE; rw [if_neg hcc]
    rw [e]
    simp only [go_sem, Nat.reduceEqDiff, reduceIte, ↓reduceIte, Nat.reduceAdd, List.replicate_succ, List.replicate_zero, List.set_cons_zero, List.set_cons_succ, List.length_cons, List.length_nil, Nat.reduceLT, Nat.lt_add_one, ne_eq, Int.reduceEq, not_false_eq_true, Option.map_some, Nat.reduceLeDiff, Nat.zero_lt_succ, List.map_cons, List.map_nil, List.nil_append, List.cons_append, List.append_nil, bytesOf, List.take_succ_cons, List.take_zero, List.drop_zero, and_self, List.append_assoc, List.length_append, Int.reduceLT, Int.reduceLE, Int.toNat_zero, Int.reduceToNat, Int.cast_ofNat_Int, Int.natCast_zero, Int.natCast_one, Int.reduceAdd, List.map_append, Option.bind_some, h7, dc, i7.g3, i7.g2, set_get i7.g2]
    refine ⟨rfl, _, (i7.s2 _).eq⟩
  subst hcc
  have r5 := r5 rfl
  have ed : wr .i64 ((bs.length : Int) - (a : Int)) = (bs.length : Int) - (a : Int) := wr64 (by omega) (by omega)
  by_cases hlong : (bs.length : Int) - (a : Int) < k
  · have dl : decide ((bs.length : Int) - (a : Int) < k) = true := by simp [hlong]
    have e : insE bs o.1 ab.1 c.1 n.1 (k, (a, 0)) = (⟨o.1, ab.1.tdiv 16, ab.1.tmod 16, c.1, n.1, []⟩, (a, 2)) := by unfold insE; rw [if_pos rfl, if_pos hlong]
    rw [e]
    have i8 := i7.s1 (a, 2)
    have h8 := i8.rd
    unfold rdO at h8 i8
    simp only [go_sem, Nat.reduceEqDiff, reduceIte, ↓reduceIte, Nat.reduceAdd, List.replicate_succ, List.replicate_zero, List.set_cons_zero, List.set_cons_succ, List.length_cons, List.length_nil, Nat.reduceLT, Nat.lt_add_one, ne_eq, Int.reduceEq, not_false_eq_true, Option.map_some, Nat.reduceLeDiff, Nat.zero_lt_succ, List.map_cons, List.map_nil, List.nil_append, List.cons_append, List.append_nil, bytesOf, List.take_succ_cons, List.take_zero, List.drop_zero, and_self, List.append_assoc, List.length_append, Int.reduceLT, Int.reduceLE, Int.toNat_zero, Int.reduceToNat, Int.cast_ofNat_Int, Int.natCast_zero, Int.natCast_one, Int.reduceAdd, List.map_append, Option.bind_some, h7, rowsK_len, ed, dl, h8, i8.g3, i8.g2, set_get i8.g2]
    refine ⟨rfl, _, (i8.s2 _).eq⟩
  · have dl : decide ((bs.length : Int) - (a : Int) < k) = false := by simp [hlong]
    have ea : wr .i64 ((a : Int) + k) = ((a + k.toNat : Nat) : Int) := by rw [wr64 (by omega) (by omega)]; omega
    have e : insE bs o.1 ab.1 c.1 n.1 (k, (a, 0)) = (⟨o.1, ab.1.tdiv 16, ab.1.tmod 16, c.1, n.1, strD ((bs.drop a).take k.toNat)⟩, (a + k.toNat, 0)) := by unfold insE; rw [if_pos rfl, if_neg hlong]
    rw [e]
    simp only [go_sem, Nat.reduceEqDiff, reduceIte, ↓reduceIte, Nat.reduceAdd, List.replicate_succ, List.replicate_zero, List.set_cons_zero, List.set_cons_succ, List.length_cons, List.length_nil, Nat.reduceLT, Nat.lt_add_one, ne_eq, Int.reduceEq, not_false_eq_true, Option.map_some, Nat.reduceLeDiff, Nat.zero_lt_succ, List.map_cons, List.map_nil, List.nil_append, List.cons_append, List.append_nil, bytesOf, List.take_succ_cons, List.take_zero, List.drop_zero, and_self, List.append_assoc, List.length_append, Int.reduceLT, Int.reduceLE, Int.toNat_zero, Int.reduceToNat, Int.cast_ofNat_Int, Int.natCast_zero, Int.natCast_one, Int.reduceAdd, List.map_append, Option.bind_some, h7, rowsK_len, ed, dl]
    refine drw_same ?_
    simp only [go_sem, Nat.reduceEqDiff, reduceIte, ↓reduceIte, Nat.reduceAdd, List.replicate_succ, List.replicate_zero, List.set_cons_zero, List.set_cons_succ, List.length_cons, List.length_nil, Nat.reduceLT, Nat.lt_add_one, ne_eq, Int.reduceEq, not_false_eq_true, Option.map_some, Nat.reduceLeDiff, Nat.zero_lt_succ, List.map_cons, List.map_nil, List.nil_append, List.cons_append, List.append_nil, bytesOf, List.take_succ_cons, List.take_zero, List.drop_zero, and_self, List.append_assoc, List.length_append, Int.reduceLT, Int.reduceLE, Int.toNat_zero, Int.reduceToNat, Int.cast_ofNat_Int, Int.natCast_zero, Int.natCast_one, Int.reduceAdd, List.map_append, Option.bind_some, h7, ea, rowsK_len]
    refine ⟨rowsK_one _, by omega, by omega, ?_⟩
    rw [show a + k.toNat - a = k.toNat by omega, rowsK_slice, bytesOf_rows, if_pos (by simp [rowsK]; omega)]
    have i8 := i7.s3 (.var [.p (.i .i64 o.1), .p (.i .i64 (ab.1.tdiv 16)), .p (.i .i64 (ab.1.tmod 16)), .p (.i .i64 c.1), .p (.i .i64 n.1), .p (.s (strD ((bs.drop a).take k.toNat)))])
    have h8 := i8.rd
    have i9 := i8.s1 (a + k.toNat, 0)
    unfold rdO at h8 i9
    simp only [go_sem, Nat.reduceEqDiff, reduceIte, ↓reduceIte, Nat.reduceAdd, List.replicate_succ, List.replicate_zero, List.set_cons_zero, List.set_cons_succ, List.length_cons, List.length_nil, Nat.reduceLT, Nat.lt_add_one, ne_eq, Int.reduceEq, not_false_eq_true, Option.map_some, Nat.reduceLeDiff, Nat.zero_lt_succ, List.map_cons, List.map_nil, List.nil_append, List.cons_append, List.append_nil, bytesOf, List.take_succ_cons, List.take_zero, List.drop_zero, and_self, List.append_assoc, List.length_append, Int.reduceLT, Int.reduceLE, Int.toNat_zero, Int.reduceToNat, Int.cast_ofNat_Int, Int.natCast_zero, Int.natCast_one, Int.reduceAdd, List.map_append, Option.bind_some, i7.g3, h8, ea, i9.g3, i9.g2, set_get i9.g2]
    refine ⟨rfl, _, (i9.s2 _).eq⟩
end Go.Proofs.Ytmbggdfceecojaa.Cd
