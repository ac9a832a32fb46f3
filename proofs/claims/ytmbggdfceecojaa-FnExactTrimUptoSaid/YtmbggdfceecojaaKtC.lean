/- Texts McD RcC RcD RcE RcF RcG PiB PiC, merged. -/
import Derived.Test.YtmbggdfceecojaaKtB
import Derived.Test.YtmbggdfceecojaaChecked
import Derived.KernelRfl
/- THE SMALL CODES of functions 5 28 29 30 31 32 80 81 82 83, and their ties to the program (printed by wip/tools/mkties.sh). -/
set_option linter.all false
namespace Go.Proofs.Ytmbggdfceecojaa.Mc
open Go.AM
def lv5 : List Nat := [0, 1, 2, 3, 4, 5, 6, 7, 8, 9, 10, 15, 26, 31, 42, 50, 53, 60, 65, 68]
def mc5 : MC :=
.seq (.reg [
    ⟨.l 1, .box 2 (.l 0), none⟩,
    ⟨.l 2, .mv (.c (.p (.b false))), none⟩]) (
  .seq (.reg [
    ⟨.l 3, .mv (.c (.p (.i .i64 1048576))), none⟩]) (
  .seq (.reg [
    ⟨.t 11, .ld true 2 (.l 1), none⟩,
    ⟨.t 12, .mv (.l 3), none⟩,
    ⟨.t 13, .call 19 [.t 11, .t 12], none⟩,
    ⟨.l 3, .mv (.t 13), none⟩]) (
  .seq (.seq (.reg [
    ⟨.t 14, .mv (.l 3), none⟩,
    ⟨.l 15, .bin .lss (.t 14) (.c (.p (.i .i64 0))), none⟩]) (
  .cond (.l 15) (
    .seq (.reg [
      ⟨.l 2, .mv (.c (.p (.b true))), none⟩]) (
    .ret)) (
    .skip))) (
  .seq (.reg [
    ⟨.t 16, .ld true 2 (.l 1), none⟩,
    ⟨.t 17, .call 21 [.t 16], none⟩,
    ⟨.t 18, .call 28 [.t 17], none⟩,
    ⟨.l 4, .mv (.t 18), none⟩]) (
  .seq (.reg [
    ⟨.t 19, .ld true 2 (.l 1), none⟩,
    ⟨.t 20, .call 21 [.t 19], none⟩,
    ⟨.l 5, .alloc [.p (.nl), .p (.nl)], none⟩,
    ⟨.no, .sto 2 (.l 5) (.t 20), none⟩]) (
  .seq (.reg [
    ⟨.t 21, .ld true 2 (.l 5), none⟩,
    ⟨.t 22, .call 29 [.t 21], none⟩,
    ⟨.l 6, .mv (.t 22), none⟩]) (
  .seq (.seq (.reg [
    ⟨.t 23, .mv (.l 6), none⟩,
    ⟨.t 24, .mv (.l 4), none⟩,
    ⟨.t 25, .call 30 [.t 23, .t 24], none⟩,
    ⟨.l 26, .un .not (.t 25), none⟩]) (
  .cond (.l 26) (
    .seq (.reg [
      ⟨.l 2, .mv (.c (.p (.b false))), none⟩]) (
    .ret)) (
    .skip))) (
  .seq (.seq (.drw [
    ⟨.t 27, .ld true 2 (.l 5), none⟩,
    ⟨.t 28, .ld true 2 (.l 1), none⟩,
    ⟨.t 29, .call 21 [.t 28], none⟩] [
    ⟨.t 30, .call 24 [.t 27, .t 29], none⟩,
    ⟨.l 31, .un .not (.t 30), none⟩]) (
  .cond (.l 31) (
    .seq (.reg [
      ⟨.l 2, .mv (.c (.p (.b false))), none⟩]) (
    .ret)) (
    .skip))) (
  .seq (.reg [
    ⟨.l 7, .mv (.c (.p (.i .i64 1))), none⟩]) (
  .seq (.reg [
    ⟨.t 32, .ld true 2 (.l 5), none⟩,
    ⟨.t 33, .mv (.l 7), none⟩,
    ⟨.t 34, .call 25 [.t 32, .t 33], none⟩,
    ⟨.l 7, .mv (.t 34), none⟩]) (
  .seq (.seq (.reg [
    ⟨.t 35, .mv (.l 7), none⟩,
    ⟨.t 36, .bin .lss (.t 35) (.c (.p (.i .i64 0))), none⟩,
    ⟨.t 37, .mv (.t 36), none⟩,
    ⟨.t 38, .mv (.l 6), some ((.t 37), false)⟩,
    ⟨.t 39, .mv (.l 4), some ((.t 37), false)⟩,
    ⟨.t 40, .call 30 [.t 38, .t 39], some ((.t 37), false)⟩,
    ⟨.t 41, .un .not (.t 40), some ((.t 37), false)⟩,
    ⟨.l 42, .pick (.t 37) (.c (.p (.b true))) (.t 41), none⟩]) (
  .cond (.l 42) (
    .seq (.reg [
      ⟨.l 2, .mv (.c (.p (.b false))), none⟩]) (
    .ret)) (
    .skip))) (
  .seq (.reg [
    ⟨.l 8, .mv (.c (.p (.i .i64 1))), none⟩]) (
  .seq (.reg [
    ⟨.t 43, .mv (.l 6), none⟩,
    ⟨.t 44, .mv (.l 8), none⟩,
    ⟨.t 45, .call 31 [.t 43, .t 44], none⟩,
    ⟨.l 8, .mv (.t 45), none⟩]) (
  .seq (.reg [
    ⟨.l 9, .mv (.c (.p (.i .i64 1))), none⟩]) (
  .seq (.reg [
    ⟨.t 46, .mv (.l 6), none⟩,
    ⟨.t 47, .mv (.l 9), none⟩,
    ⟨.t 48, .call 32 [.t 46, .t 47], none⟩,
    ⟨.l 9, .mv (.t 48), none⟩]) (
  .seq (.seq (.reg [
    ⟨.t 49, .mv (.l 9), none⟩,
    ⟨.l 50, .bin .lss (.t 49) (.c (.p (.i .i64 0))), none⟩]) (
  .cond (.l 50) (
    .seq (.reg [
      ⟨.l 2, .mv (.c (.p (.b false))), none⟩]) (
    .ret)) (
    .skip))) (
  .seq (.seq (.reg [
    ⟨.t 51, .mv (.l 9), none⟩,
    ⟨.t 52, .mv (.l 8), none⟩,
    ⟨.l 53, .bin .neq (.t 51) (.t 52), none⟩]) (
  .cond (.l 53) (
    .seq (.reg [
      ⟨.l 2, .mv (.c (.p (.b false))), none⟩]) (
    .ret)) (
    .skip))) (
  .seq (.reg [
    ⟨.t 54, .ld true 2 (.l 1), none⟩,
    ⟨.t 55, .call 21 [.t 54], none⟩,
    ⟨.t 56, .call 29 [.t 55], none⟩,
    ⟨.l 10, .mv (.t 56), none⟩]) (
  .seq (.seq (.reg [
    ⟨.t 57, .mv (.l 10), none⟩,
    ⟨.t 58, .mv (.l 4), none⟩,
    ⟨.t 59, .call 30 [.t 57, .t 58], none⟩,
    ⟨.l 60, .un .not (.t 59), none⟩]) (
  .cond (.l 60) (
    .seq (.reg [
      ⟨.l 2, .mv (.c (.p (.b false))), none⟩]) (
    .ret)) (
    .skip))) (
  .seq (.reg [
    ⟨.l 9, .mv (.c (.p (.i .i64 1))), none⟩]) (
  .seq (.reg [
    ⟨.t 61, .mv (.l 6), none⟩,
    ⟨.t 62, .mv (.l 9), none⟩,
    ⟨.t 63, .call 32 [.t 61, .t 62], none⟩,
    ⟨.l 9, .mv (.t 63), none⟩]) (
  .seq (.seq (.reg [
    ⟨.t 64, .mv (.l 9), none⟩,
    ⟨.l 65, .bin .lss (.t 64) (.c (.p (.i .i64 0))), none⟩]) (
  .cond (.l 65) (
    .seq (.reg [
      ⟨.l 2, .mv (.c (.p (.b false))), none⟩]) (
    .ret)) (
    .skip))) (
  .seq (.seq (.reg [
    ⟨.t 66, .mv (.l 9), none⟩,
    ⟨.t 67, .mv (.l 8), none⟩,
    ⟨.l 68, .bin .neq (.t 66) (.t 67), none⟩]) (
  .cond (.l 68) (
    .seq (.reg [
      ⟨.l 2, .mv (.c (.p (.b false))), none⟩]) (
    .ret)) (
    .skip))) (
  .seq (.reg [
    ⟨.l 2, .mv (.c (.p (.b true))), none⟩]) (
  .ret)))))))))))))))))))))))))
theorem mc5_eq : (Try.f5.body.map (compile lv5 Try.prog 69)) = some mc5 := by kernel_rfl
def mr5 : List MR := [.t 2]
theorem mr5_eq : cRess lv5 Try.prog Try.f5.results.toList = some mr5 := by kernel_rfl
theorem call5 {args : List AV} {H : List AO} {Q : AV → List AO → Prop} (hla : args.length ≤ 69) (h : wpm (ACall Try.prog) mc5 (finK mr5 Q) ⟨argEnv 0 args, [], H⟩) : ACall Try.prog 5 args H Q :=
  acall_mc (by kernel_rfl) Try.func5 mc5_eq Try.ntmps5 (by kernel_rfl) mr5_eq hla h
def lv28 : List Nat := [0, 1, 2, 3, 4, 7, 26]
def mc28 : MC :=
.seq (.reg [
    ⟨.l 1, .box 2 (.l 0), none⟩,
    ⟨.l 2, .mv (.c (.p (.nl))), none⟩]) (
  .seq (.seq (.reg [
    ⟨.t 5, .ld true 2 (.l 1), none⟩,
    ⟨.t 6, .call 70 [.t 5], none⟩,
    ⟨.l 7, .un .not (.t 6), none⟩]) (
  .cond (.l 7) (
    .seq (.reg [
      ⟨.t 8, .bsl 1 [.p (.b false)] 0 [], none⟩,
      ⟨.l 2, .mv (.t 8), none⟩]) (
    .ret)) (
    .skip))) (
  .seq (.drw [
    ⟨.t 9, .fad 0 (.l 1), none⟩,
    ⟨.t 10, .ld false 1 (.t 9), none⟩,
    ⟨.t 11, .lenq false (.t 10), none⟩,
    ⟨.t 12, .mks 1 1 [.p (.b false)] (.t 11) (.t 11), none⟩,
    ⟨.t 13, .fad 1 (.l 1), none⟩,
    ⟨.t 14, .ld false 1 (.t 13), none⟩,
    ⟨.t 15, .lenq false (.t 14), none⟩,
    ⟨.t 16, .mks 1 1 [.p (.b false)] (.t 15) (.t 15), none⟩] [
    ⟨.t 17, .build [.p (.nl), .p (.nl), .p (.nl), .p (.b false)] [(0, 1, (.t 12)), (2, 1, (.t 16))], none⟩,
    ⟨.t 18, .box 4 (.t 17), none⟩,
    ⟨.l 3, .mv (.t 18), none⟩]) (
  .seq (.reg [
    ⟨.t 19, .mv (.l 3), none⟩,
    ⟨.t 20, .call 80 [.t 19, .c (.p (.i .i64 0))], none⟩]) (
  .seq (.blk 0 (
    .loop (
      .seq (.seq (.reg [
        ⟨.t 21, .mv (.l 3), none⟩,
        ⟨.t 22, .nilc (.t 21), none⟩,
        ⟨.t 23, .fad 1 (.t 22), none⟩,
        ⟨.t 24, .ld false 1 (.t 23), none⟩,
        ⟨.t 25, .len false (.t 24), none⟩,
        ⟨.l 26, .bin .gtr (.t 25) (.c (.p (.i .i64 0))), none⟩]) (
      .cond (.l 26) (
        .skip) (
        .exit 0))) (
      .blk 1 (
        .seq (.drw [
          ⟨.t 27, .mv (.l 3), none⟩,
          ⟨.t 28, .nilc (.t 27), none⟩,
          ⟨.t 29, .fad 1 (.t 28), none⟩,
          ⟨.t 30, .ld false 1 (.t 29), none⟩,
          ⟨.t 31, .mv (.l 3), none⟩,
          ⟨.t 32, .nilc (.t 31), none⟩,
          ⟨.t 33, .fad 1 (.t 32), none⟩,
          ⟨.t 34, .ld false 1 (.t 33), none⟩,
          ⟨.t 35, .lenq false (.t 34), none⟩,
          ⟨.t 36, .bin .sub (.t 35) (.c (.p (.i .i64 1))), none⟩] [
          ⟨.t 37, .ixs 1 (.t 30) (.t 36), none⟩,
          ⟨.t 38, .ld false 1 (.t 37), none⟩,
          ⟨.l 4, .mv (.t 38), none⟩]) (
        .seq (.drw [
          ⟨.t 39, .mv (.l 3), none⟩,
          ⟨.t 40, .mv (.l 3), none⟩,
          ⟨.t 41, .nilc (.t 40), none⟩,
          ⟨.t 42, .fad 1 (.t 41), none⟩,
          ⟨.t 43, .ld false 1 (.t 42), none⟩,
          ⟨.t 44, .mv (.l 3), none⟩,
          ⟨.t 45, .nilc (.t 44), none⟩,
          ⟨.t 46, .fad 1 (.t 45), none⟩,
          ⟨.t 47, .ld false 1 (.t 46), none⟩,
          ⟨.t 48, .lenq false (.t 47), none⟩,
          ⟨.t 49, .bin .sub (.t 48) (.c (.p (.i .i64 1))), none⟩,
          ⟨.t 50, .slc (some 1) (.t 43) none (some (.t 49)), none⟩] [
          ⟨.t 51, .nilc (.t 39), none⟩,
          ⟨.t 52, .fad 1 (.t 51), none⟩,
          ⟨.no, .sto 1 (.t 52) (.t 50), none⟩]) (
        .reg [
          ⟨.t 53, .mv (.l 3), none⟩,
          ⟨.t 54, .ld true 2 (.l 1), none⟩,
          ⟨.t 55, .mv (.l 4), none⟩,
          ⟨.t 56, .call 81 [.t 53, .t 54, .t 55], none⟩]))))))) (
  .seq (.reg [
    ⟨.t 57, .mv (.l 3), none⟩,
    ⟨.t 58, .nilc (.t 57), none⟩,
    ⟨.t 59, .fad 0 (.t 58), none⟩,
    ⟨.t 60, .ld false 1 (.t 59), none⟩,
    ⟨.l 2, .mv (.t 60), none⟩]) (
  .ret))))))
theorem mc28_eq : (Try.f28.body.map (compile lv28 Try.prog 61)) = some mc28 := by kernel_rfl
def mr28 : List MR := [.t 2]
theorem mr28_eq : cRess lv28 Try.prog Try.f28.results.toList = some mr28 := by kernel_rfl
theorem call28 {args : List AV} {H : List AO} {Q : AV → List AO → Prop} (hla : args.length ≤ 61) (h : wpm (ACall Try.prog) mc28 (finK mr28 Q) ⟨argEnv 0 args, [], H⟩) : ACall Try.prog 28 args H Q :=
  acall_mc (by kernel_rfl) Try.func28 mc28_eq Try.ntmps28 (by kernel_rfl) mr28_eq hla h
def lv29 : List Nat := [0, 1, 2, 3, 4, 5, 6, 7, 8, 9, 10, 13, 28, 46, 49, 58, 67, 71, 74]
def mc29 : MC :=
.seq (.reg [
    ⟨.l 1, .box 2 (.l 0), none⟩,
    ⟨.l 2, .mv (.c (.p (.nl))), none⟩]) (
  .seq (.seq (.reg [
    ⟨.t 11, .ld true 2 (.l 1), none⟩,
    ⟨.t 12, .call 74 [.t 11], none⟩,
    ⟨.l 13, .un .not (.t 12), none⟩]) (
  .cond (.l 13) (
    .seq (.reg [
      ⟨.l 2, .mv (.c (.p (.nl))), none⟩]) (
    .ret)) (
    .skip))) (
  .seq (.reg [
    ⟨.t 14, .fad 0 (.l 1), none⟩,
    ⟨.t 15, .ld false 1 (.t 14), none⟩,
    ⟨.t 16, .len false (.t 15), none⟩,
    ⟨.t 17, .mks 1 1 [.p (.b false)] (.t 16) (.t 16), none⟩,
    ⟨.l 3, .alloc [.p (.nl)], none⟩,
    ⟨.no, .sto 1 (.l 3) (.t 17), none⟩]) (
  .seq (.reg [
    ⟨.t 18, .fad 1 (.l 1), none⟩,
    ⟨.t 19, .ld false 1 (.t 18), none⟩,
    ⟨.t 20, .len false (.t 19), none⟩,
    ⟨.t 21, .mks 1 1 [.p (.b false)] (.t 20) (.t 20), none⟩,
    ⟨.l 4, .alloc [.p (.nl)], none⟩,
    ⟨.no, .sto 1 (.l 4) (.t 21), none⟩]) (
  .seq (.reg [
    ⟨.l 5, .alloc [.p (.b false)], none⟩,
    ⟨.no, .sto 1 (.l 5) (.c (.p (.b false))), none⟩]) (
  .seq (.reg [
    ⟨.l 6, .alloc [.p (.nl)], none⟩]) (
  .seq (.reg [
    ⟨.t 22, .mkf 82 [.l 3, .l 6], none⟩,
    ⟨.l 7, .alloc [.p (.nf)], none⟩,
    ⟨.no, .sto 1 (.l 7) (.t 22), none⟩]) (
  .seq (.reg [
    ⟨.t 23, .mkf 83 [.l 4, .l 5, .l 7, .l 1], none⟩,
    ⟨.l 8, .mv (.t 23), none⟩]) (
  .seq (.reg [
    ⟨.t 24, .ld false 1 (.l 7), none⟩,
    ⟨.t 25, .calv (.t 24) [.c (.p (.i .i64 0))], none⟩]) (
  .seq (.blk 0 (
    .loop (
      .seq (.seq (.reg [
        ⟨.t 26, .ld false 1 (.l 6), none⟩,
        ⟨.t 27, .len false (.t 26), none⟩,
        ⟨.l 28, .bin .gtr (.t 27) (.c (.p (.i .i64 0))), none⟩]) (
      .cond (.l 28) (
        .skip) (
        .exit 0))) (
      .blk 1 (
        .seq (.reg [
          ⟨.t 29, .ld false 1 (.l 6), none⟩,
          ⟨.t 30, .ld false 1 (.l 6), none⟩,
          ⟨.t 31, .len false (.t 30), none⟩,
          ⟨.t 32, .bin .sub (.t 31) (.c (.p (.i .i64 1))), none⟩,
          ⟨.t 33, .ixs 1 (.t 29) (.t 32), none⟩,
          ⟨.t 34, .ld false 1 (.t 33), none⟩,
          ⟨.l 9, .mv (.t 34), none⟩]) (
        .seq (.reg [
          ⟨.t 35, .ld false 1 (.l 6), none⟩,
          ⟨.t 36, .ld false 1 (.l 6), none⟩,
          ⟨.t 37, .len false (.t 36), none⟩,
          ⟨.t 38, .bin .sub (.t 37) (.c (.p (.i .i64 1))), none⟩,
          ⟨.t 39, .slc (some 1) (.t 35) none (some (.t 38)), none⟩,
          ⟨.no, .sto 1 (.l 6) (.t 39), none⟩]) (
        .seq (.reg [
          ⟨.t 40, .fad 0 (.l 1), none⟩,
          ⟨.t 41, .ld false 1 (.t 40), none⟩,
          ⟨.t 42, .mv (.l 9), none⟩,
          ⟨.t 43, .ixs 6 (.t 41) (.t 42), none⟩,
          ⟨.t 44, .ld true 6 (.t 43), none⟩,
          ⟨.l 10, .alloc [.p (.i .i64 0), .p (.i .i64 0), .p (.i .i64 0), .p (.i .i64 0), .p (.i .i64 0), .p (.s [])], none⟩,
          ⟨.no, .sto 6 (.l 10) (.t 44), none⟩]) (
        .seq (.reg [
          ⟨.t 45, .fad 0 (.l 10), none⟩,
          ⟨.l 46, .ld false 1 (.t 45), none⟩]) (
        .blk 2 (
          .seq (.reg [
            ⟨.t 68, .bin .eql (.l 46) (.c (.p (.i .i64 13))), none⟩,
            ⟨.l 67, .mv (.t 68), none⟩]) (
          .cond (.l 67) (
            .seq (.reg [
              ⟨.no, .sto 1 (.l 5) (.c (.p (.b true))), none⟩]) (
            .reg [
              ⟨.t 69, .mv (.l 8), none⟩,
              ⟨.t 70, .calv (.t 69) [], none⟩])) (
            .seq (.seq (.reg [
              ⟨.t 72, .bin .eql (.l 46) (.c (.p (.i .i64 14))), none⟩,
              ⟨.l 71, .mv (.t 72), none⟩]) (
            .cond (.l 71) (
              .skip) (
              .reg [
                ⟨.t 73, .bin .eql (.l 46) (.c (.p (.i .i64 15))), none⟩,
                ⟨.l 71, .mv (.t 73), none⟩]))) (
            .cond (.l 71) (
              .skip) (
              .seq (.reg [
                ⟨.t 75, .bin .eql (.l 46) (.c (.p (.i .i64 12))), none⟩,
                ⟨.l 74, .mv (.t 75), none⟩]) (
              .cond (.l 74) (
                .reg [
                  ⟨.t 76, .ld false 1 (.l 7), none⟩,
                  ⟨.t 77, .fad 4 (.l 10), none⟩,
                  ⟨.t 78, .ld false 1 (.t 77), none⟩,
                  ⟨.t 79, .calv (.t 76) [.t 78], none⟩]) (
                .seq (.seq (.reg [
                  ⟨.t 47, .fad 0 (.l 10), none⟩,
                  ⟨.t 48, .ld false 1 (.t 47), none⟩,
                  ⟨.l 49, .bin .eql (.t 48) (.c (.p (.i .i64 3))), none⟩]) (
                .cond (.l 49) (
                  .seq (.reg [
                    ⟨.t 50, .ld false 1 (.l 4), none⟩,
                    ⟨.t 51, .fad 4 (.l 10), none⟩,
                    ⟨.t 52, .ld false 1 (.t 51), none⟩,
                    ⟨.t 53, .ixs 1 (.t 50) (.t 52), none⟩,
                    ⟨.no, .sto 1 (.t 53) (.c (.p (.b true))), none⟩]) (
                  .reg [
                    ⟨.t 54, .mv (.l 8), none⟩,
                    ⟨.t 55, .calv (.t 54) [], none⟩])) (
                  .skip))) (
                .seq (.seq (.reg [
                  ⟨.t 56, .fad 0 (.l 10), none⟩,
                  ⟨.t 57, .ld false 1 (.t 56), none⟩,
                  ⟨.l 58, .bin .eql (.t 57) (.c (.p (.i .i64 11))), none⟩]) (
                .cond (.l 58) (
                  .reg [
                    ⟨.t 59, .ld false 1 (.l 7), none⟩,
                    ⟨.t 60, .fad 4 (.l 10), none⟩,
                    ⟨.t 61, .ld false 1 (.t 60), none⟩,
                    ⟨.t 62, .calv (.t 59) [.t 61], none⟩]) (
                  .skip))) (
                .reg [
                  ⟨.t 63, .ld false 1 (.l 7), none⟩,
                  ⟨.t 64, .mv (.l 9), none⟩,
                  ⟨.t 65, .bin .add (.t 64) (.c (.p (.i .i64 1))), none⟩,
                  ⟨.t 66, .calv (.t 63) [.t 65], none⟩])))))))))))))))))) (
  .seq (.reg [
    ⟨.t 80, .ld false 1 (.l 3), none⟩,
    ⟨.l 2, .mv (.t 80), none⟩]) (
  .ret)))))))))))
theorem mc29_eq : (Try.f29.body.map (compile lv29 Try.prog 81)) = some mc29 := by kernel_rfl
def mr29 : List MR := [.t 2]
theorem mr29_eq : cRess lv29 Try.prog Try.f29.results.toList = some mr29 := by kernel_rfl
theorem call29 {args : List AV} {H : List AO} {Q : AV → List AO → Prop} (hla : args.length ≤ 81) (h : wpm (ACall Try.prog) mc29 (finK mr29 Q) ⟨argEnv 0 args, [], H⟩) : ACall Try.prog 29 args H Q :=
  acall_mc (by kernel_rfl) Try.func29 mc29_eq Try.ntmps29 (by kernel_rfl) mr29_eq hla h
def lv30 : List Nat := [0, 1, 4, 5, 10, 14, 25]
def mc30 : MC :=
.seq (.reg [
    ⟨.l 4, .mv (.c (.p (.b false))), none⟩]) (
  .seq (.seq (.reg [
    ⟨.t 6, .mv (.l 0), none⟩,
    ⟨.t 7, .len false (.t 6), none⟩,
    ⟨.t 8, .mv (.l 1), none⟩,
    ⟨.t 9, .len false (.t 8), none⟩,
    ⟨.l 10, .bin .neq (.t 7) (.t 9), none⟩]) (
  .cond (.l 10) (
    .seq (.reg [
      ⟨.l 4, .mv (.c (.p (.b false))), none⟩]) (
    .ret)) (
    .skip))) (
  .seq (.seq (.reg [
    ⟨.l 5, .mv (.c (.p (.i .i64 0))), none⟩]) (
  .blk 0 (
    .loop (
      .seq (.seq (.reg [
        ⟨.t 11, .mv (.l 5), none⟩,
        ⟨.t 12, .mv (.l 0), none⟩,
        ⟨.t 13, .len false (.t 12), none⟩,
        ⟨.l 14, .bin .lss (.t 11) (.t 13), none⟩]) (
      .cond (.l 14) (
        .skip) (
        .exit 0))) (
      .seq (.blk 1 (
        .seq (.drw [
          ⟨.t 17, .mv (.l 0), none⟩,
          ⟨.t 18, .mv (.l 5), none⟩,
          ⟨.t 19, .ixs 1 (.t 17) (.t 18), none⟩,
          ⟨.t 20, .ld false 1 (.t 19), none⟩,
          ⟨.t 21, .mv (.l 1), none⟩,
          ⟨.t 22, .mv (.l 5), none⟩,
          ⟨.t 23, .ixs 1 (.t 21) (.t 22), none⟩,
          ⟨.t 24, .ld false 1 (.t 23), none⟩] [
          ⟨.l 25, .beq true (.t 20) (.t 24), none⟩]) (
        .cond (.l 25) (
          .seq (.reg [
            ⟨.l 4, .mv (.c (.p (.b false))), none⟩]) (
          .ret)) (
          .skip)))) (
      .reg [
        ⟨.t 15, .mv (.l 5), none⟩,
        ⟨.t 16, .bin .add (.t 15) (.c (.p (.i .i64 1))), none⟩,
        ⟨.l 5, .mv (.t 16), none⟩])))))) (
  .seq (.reg [
    ⟨.l 4, .mv (.c (.p (.b true))), none⟩]) (
  .ret))))
theorem mc30_eq : (Try.f30.body.map (compile lv30 Try.prog 26)) = some mc30 := by kernel_rfl
def mr30 : List MR := [.t 4]
theorem mr30_eq : cRess lv30 Try.prog Try.f30.results.toList = some mr30 := by kernel_rfl
theorem call30 {args : List AV} {H : List AO} {Q : AV → List AO → Prop} (hla : args.length ≤ 26) (h : wpm (ACall Try.prog) mc30 (finK mr30 Q) ⟨argEnv 0 args, [], H⟩) : ACall Try.prog 30 args H Q :=
  acall_mc (by kernel_rfl) Try.func30 mc30_eq Try.ntmps30 (by kernel_rfl) mr30_eq hla h
def lv31 : List Nat := [0, 1, 4, 5, 9]
def mc31 : MC :=
.seq (.reg [
    ⟨.l 4, .mv (.c (.p (.i .i64 0))), none⟩]) (
  .seq (.seq (.reg [
    ⟨.l 5, .mv (.c (.p (.i .i64 0))), none⟩]) (
  .blk 0 (
    .loop (
      .seq (.seq (.reg [
        ⟨.t 6, .mv (.l 5), none⟩,
        ⟨.t 7, .mv (.l 0), none⟩,
        ⟨.t 8, .len false (.t 7), none⟩,
        ⟨.l 9, .bin .lss (.t 6) (.t 8), none⟩]) (
      .cond (.l 9) (
        .skip) (
        .exit 0))) (
      .seq (.blk 1 (
        .seq (.reg [
          ⟨.t 12, .mv (.l 0), none⟩,
          ⟨.t 13, .mv (.l 5), none⟩,
          ⟨.t 14, .mv (.l 1), none⟩,
          ⟨.t 15, .bin .rem (.t 14) (.c (.p (.i .i64 3))), none⟩,
          ⟨.t 16, .bin .eql (.t 15) (.c (.p (.i .i64 0))), none⟩,
          ⟨.t 17, .ixs 1 (.t 12) (.t 13), none⟩,
          ⟨.no, .sto 1 (.t 17) (.t 16), none⟩]) (
        .reg [
          ⟨.t 18, .mv (.l 1), none⟩,
          ⟨.t 19, .bin .add (.t 18) (.c (.p (.i .i64 1))), none⟩,
          ⟨.l 1, .mv (.t 19), none⟩]))) (
      .reg [
        ⟨.t 10, .mv (.l 5), none⟩,
        ⟨.t 11, .bin .add (.t 10) (.c (.p (.i .i64 1))), none⟩,
        ⟨.l 5, .mv (.t 11), none⟩])))))) (
  .seq (.reg [
    ⟨.t 20, .mv (.l 1), none⟩,
    ⟨.l 4, .mv (.t 20), none⟩]) (
  .ret)))
theorem mc31_eq : (Try.f31.body.map (compile lv31 Try.prog 21)) = some mc31 := by kernel_rfl
def mr31 : List MR := [.t 4]
theorem mr31_eq : cRess lv31 Try.prog Try.f31.results.toList = some mr31 := by kernel_rfl
theorem call31 {args : List AV} {H : List AO} {Q : AV → List AO → Prop} (hla : args.length ≤ 21) (h : wpm (ACall Try.prog) mc31 (finK mr31 Q) ⟨argEnv 0 args, [], H⟩) : ACall Try.prog 31 args H Q :=
  acall_mc (by kernel_rfl) Try.func31 mc31_eq Try.ntmps31 (by kernel_rfl) mr31_eq hla h
def lv32 : List Nat := [0, 1, 4, 5, 9, 19]
def mc32 : MC :=
.seq (.reg [
    ⟨.l 4, .mv (.c (.p (.i .i64 0))), none⟩]) (
  .seq (.seq (.reg [
    ⟨.l 5, .mv (.c (.p (.i .i64 0))), none⟩]) (
  .blk 0 (
    .loop (
      .seq (.seq (.reg [
        ⟨.t 6, .mv (.l 5), none⟩,
        ⟨.t 7, .mv (.l 0), none⟩,
        ⟨.t 8, .len false (.t 7), none⟩,
        ⟨.l 9, .bin .lss (.t 6) (.t 8), none⟩]) (
      .cond (.l 9) (
        .skip) (
        .exit 0))) (
      .seq (.blk 1 (
        .seq (.seq (.reg [
          ⟨.t 12, .mv (.l 0), none⟩,
          ⟨.t 13, .mv (.l 5), none⟩,
          ⟨.t 14, .ixs 1 (.t 12) (.t 13), none⟩,
          ⟨.t 15, .ld false 1 (.t 14), none⟩,
          ⟨.t 16, .mv (.l 1), none⟩,
          ⟨.t 17, .bin .rem (.t 16) (.c (.p (.i .i64 3))), none⟩,
          ⟨.t 18, .bin .eql (.t 17) (.c (.p (.i .i64 0))), none⟩,
          ⟨.l 19, .beq true (.t 15) (.t 18), none⟩]) (
        .cond (.l 19) (
          .seq (.reg [
            ⟨.l 4, .mv (.c (.p (.i .i64 (-1)))), none⟩]) (
          .ret)) (
          .skip))) (
        .reg [
          ⟨.t 20, .mv (.l 1), none⟩,
          ⟨.t 21, .bin .add (.t 20) (.c (.p (.i .i64 1))), none⟩,
          ⟨.l 1, .mv (.t 21), none⟩]))) (
      .reg [
        ⟨.t 10, .mv (.l 5), none⟩,
        ⟨.t 11, .bin .add (.t 10) (.c (.p (.i .i64 1))), none⟩,
        ⟨.l 5, .mv (.t 11), none⟩])))))) (
  .seq (.reg [
    ⟨.t 22, .mv (.l 1), none⟩,
    ⟨.l 4, .mv (.t 22), none⟩]) (
  .ret)))
theorem mc32_eq : (Try.f32.body.map (compile lv32 Try.prog 23)) = some mc32 := by kernel_rfl
def mr32 : List MR := [.t 4]
theorem mr32_eq : cRess lv32 Try.prog Try.f32.results.toList = some mr32 := by kernel_rfl
theorem call32 {args : List AV} {H : List AO} {Q : AV → List AO → Prop} (hla : args.length ≤ 23) (h : wpm (ACall Try.prog) mc32 (finK mr32 Q) ⟨argEnv 0 args, [], H⟩) : ACall Try.prog 32 args H Q :=
  acall_mc (by kernel_rfl) Try.func32 mc32_eq Try.ntmps32 (by kernel_rfl) mr32_eq hla h
def lv80 : List Nat := [0, 1, 11]
def mc80 : MC :=
.seq (.reg [
    ⟨.t 4, .mv (.l 0), none⟩,
    ⟨.t 5, .nilc (.t 4), none⟩,
    ⟨.t 6, .fad 0 (.t 5), none⟩,
    ⟨.t 7, .ld false 1 (.t 6), none⟩,
    ⟨.t 8, .mv (.l 1), none⟩,
    ⟨.t 9, .ixs 1 (.t 7) (.t 8), none⟩,
    ⟨.t 10, .ld false 1 (.t 9), none⟩,
    ⟨.l 11, .un .not (.t 10), none⟩]) (
  .cond (.l 11) (
    .seq (.reg [
      ⟨.t 12, .mv (.l 0), none⟩,
      ⟨.t 13, .nilc (.t 12), none⟩,
      ⟨.t 14, .fad 0 (.t 13), none⟩,
      ⟨.t 15, .ld false 1 (.t 14), none⟩,
      ⟨.t 16, .mv (.l 1), none⟩,
      ⟨.t 17, .ixs 1 (.t 15) (.t 16), none⟩,
      ⟨.no, .sto 1 (.t 17) (.c (.p (.b true))), none⟩]) (
    .reg [
      ⟨.t 18, .mv (.l 0), none⟩,
      ⟨.t 19, .mv (.l 0), none⟩,
      ⟨.t 20, .nilc (.t 19), none⟩,
      ⟨.t 21, .fad 1 (.t 20), none⟩,
      ⟨.t 22, .ld false 1 (.t 21), none⟩,
      ⟨.t 23, .mv (.l 1), none⟩,
      ⟨.t 24, .bsl 1 [.p (.i .i64 0)] 1 [(0, (.t 23))], none⟩,
      ⟨.t 25, .app 1 8 (.t 22) (.t 24), none⟩,
      ⟨.t 26, .nilc (.t 18), none⟩,
      ⟨.t 27, .fad 1 (.t 26), none⟩,
      ⟨.no, .sto 1 (.t 27) (.t 25), none⟩])) (
    .skip))
theorem mc80_eq : (Try.f80.body.map (compile lv80 Try.prog 28)) = some mc80 := by kernel_rfl
def mr80 : List MR := []
theorem mr80_eq : cRess lv80 Try.prog Try.f80.results.toList = some mr80 := by kernel_rfl
theorem call80 {args : List AV} {H : List AO} {Q : AV → List AO → Prop} (hla : args.length ≤ 28) (h : wpm (ACall Try.prog) mc80 (finK mr80 Q) ⟨argEnv 0 args, [], H⟩) : ACall Try.prog 80 args H Q :=
  acall_mc (by kernel_rfl) Try.func80 mc80_eq Try.ntmps80 (by kernel_rfl) mr80_eq hla h
def lv81 : List Nat := [0, 1, 2, 4, 6, 7, 14, 15, 18, 24, 39, 48, 59, 65, 81]
def mc81 : MC :=
.seq (.reg [
    ⟨.l 4, .box 2 (.l 1), none⟩]) (
  .seq (.reg [
    ⟨.t 8, .fad 0 (.l 4), none⟩,
    ⟨.t 9, .ld false 1 (.t 8), none⟩,
    ⟨.t 10, .mv (.l 2), none⟩,
    ⟨.t 11, .ixs 6 (.t 9) (.t 10), none⟩,
    ⟨.t 12, .ld true 6 (.t 11), none⟩,
    ⟨.l 6, .alloc [.p (.i .i64 0), .p (.i .i64 0), .p (.i .i64 0), .p (.i .i64 0), .p (.i .i64 0), .p (.s [])], none⟩,
    ⟨.no, .sto 6 (.l 6) (.t 12), none⟩]) (
  .seq (.seq (.reg [
    ⟨.t 13, .fad 0 (.l 6), none⟩,
    ⟨.l 14, .ld false 1 (.t 13), none⟩]) (
  .blk 0 (
    .seq (.seq (.reg [
      ⟨.t 16, .bin .eql (.l 14) (.c (.p (.i .i64 14))), none⟩,
      ⟨.l 15, .mv (.t 16), none⟩]) (
    .cond (.l 15) (
      .skip) (
      .reg [
        ⟨.t 17, .bin .eql (.l 14) (.c (.p (.i .i64 15))), none⟩,
        ⟨.l 15, .mv (.t 17), none⟩]))) (
    .cond (.l 15) (
      .ret) (
      .seq (.reg [
        ⟨.t 19, .bin .eql (.l 14) (.c (.p (.i .i64 12))), none⟩,
        ⟨.l 18, .mv (.t 19), none⟩]) (
      .cond (.l 18) (
        .seq (.reg [
          ⟨.t 20, .mv (.l 0), none⟩,
          ⟨.t 21, .fad 4 (.l 6), none⟩,
          ⟨.t 22, .ld false 1 (.t 21), none⟩,
          ⟨.t 23, .call 80 [.t 20, .t 22], none⟩]) (
        .ret)) (
        .seq (.reg [
          ⟨.t 25, .bin .eql (.l 14) (.c (.p (.i .i64 13))), none⟩,
          ⟨.l 24, .mv (.t 25), none⟩]) (
        .cond (.l 24) (
          .seq (.seq (.reg [
            ⟨.l 7, .mv (.c (.p (.i .i64 0))), none⟩]) (
          .blk 1 (
            .loop (
              .seq (.seq (.reg [
                ⟨.t 26, .mv (.l 7), none⟩,
                ⟨.t 27, .mv (.l 0), none⟩,
                ⟨.t 28, .nilc (.t 27), none⟩,
                ⟨.t 29, .fad 2 (.t 28), none⟩,
                ⟨.t 30, .ld false 1 (.t 29), none⟩,
                ⟨.t 31, .len false (.t 30), none⟩,
                ⟨.t 32, .bin .lss (.t 26) (.t 31), none⟩,
                ⟨.t 33, .mv (.t 32), none⟩,
                ⟨.t 34, .mv (.l 0), some ((.t 33), true)⟩,
                ⟨.t 35, .nilc (.t 34), some ((.t 33), true)⟩,
                ⟨.t 36, .fad 3 (.t 35), some ((.t 33), true)⟩,
                ⟨.t 37, .ld false 1 (.t 36), some ((.t 33), true)⟩,
                ⟨.t 38, .un .not (.t 37), some ((.t 33), true)⟩,
                ⟨.l 39, .pick (.t 33) (.t 38) (.c (.p (.b false))), none⟩]) (
              .cond (.l 39) (
                .skip) (
                .exit 1))) (
              .seq (.blk 2 (
                .seq (.reg [
                  ⟨.t 42, .mv (.l 0), none⟩,
                  ⟨.t 43, .nilc (.t 42), none⟩,
                  ⟨.t 44, .fad 2 (.t 43), none⟩,
                  ⟨.t 45, .ld false 1 (.t 44), none⟩,
                  ⟨.t 46, .mv (.l 7), none⟩,
                  ⟨.t 47, .ixs 1 (.t 45) (.t 46), none⟩,
                  ⟨.l 48, .ld false 1 (.t 47), none⟩]) (
                .cond (.l 48) (
                  .reg [
                    ⟨.t 49, .mv (.l 0), none⟩,
                    ⟨.t 50, .fad 1 (.l 4), none⟩,
                    ⟨.t 51, .ld false 1 (.t 50), none⟩,
                    ⟨.t 52, .mv (.l 7), none⟩,
                    ⟨.t 53, .ixs 1 (.t 51) (.t 52), none⟩,
                    ⟨.t 54, .ld false 1 (.t 53), none⟩,
                    ⟨.t 55, .call 80 [.t 49, .t 54], none⟩]) (
                  .skip)))) (
              .reg [
                ⟨.t 40, .mv (.l 7), none⟩,
                ⟨.t 41, .bin .add (.t 40) (.c (.p (.i .i64 1))), none⟩,
                ⟨.l 7, .mv (.t 41), none⟩])))))) (
          .seq (.reg [
            ⟨.t 56, .mv (.l 0), none⟩,
            ⟨.t 57, .nilc (.t 56), none⟩,
            ⟨.t 58, .fad 3 (.t 57), none⟩,
            ⟨.no, .sto 1 (.t 58) (.c (.p (.b true))), none⟩]) (
          .ret))) (
          .seq (.reg [
            ⟨.t 60, .bin .eql (.l 14) (.c (.p (.i .i64 11))), none⟩,
            ⟨.l 59, .mv (.t 60), none⟩]) (
          .cond (.l 59) (
            .reg [
              ⟨.t 61, .mv (.l 0), none⟩,
              ⟨.t 62, .fad 4 (.l 6), none⟩,
              ⟨.t 63, .ld false 1 (.t 62), none⟩,
              ⟨.t 64, .call 80 [.t 61, .t 63], none⟩]) (
            .seq (.reg [
              ⟨.t 66, .bin .eql (.l 14) (.c (.p (.i .i64 3))), none⟩,
              ⟨.l 65, .mv (.t 66), none⟩]) (
            .cond (.l 65) (
              .seq (.seq (.drw [
                ⟨.t 67, .mv (.l 0), none⟩,
                ⟨.t 68, .nilc (.t 67), none⟩,
                ⟨.t 69, .fad 3 (.t 68), none⟩,
                ⟨.t 70, .ld false 1 (.t 69), none⟩,
                ⟨.t 71, .mv (.t 70), none⟩,
                ⟨.t 72, .mv (.l 0), some ((.t 71), true)⟩,
                ⟨.t 73, .nilc (.t 72), some ((.t 71), true)⟩,
                ⟨.t 74, .fad 2 (.t 73), some ((.t 71), true)⟩,
                ⟨.t 75, .ld false 1 (.t 74), some ((.t 71), true)⟩,
                ⟨.t 76, .fad 4 (.l 6), some ((.t 71), true)⟩,
                ⟨.t 77, .ld false 1 (.t 76), some ((.t 71), true)⟩] [
                ⟨.t 78, .ixs 1 (.t 75) (.t 77), some ((.t 71), true)⟩,
                ⟨.t 79, .ld false 1 (.t 78), some ((.t 71), true)⟩,
                ⟨.t 80, .un .not (.t 79), some ((.t 71), true)⟩,
                ⟨.l 81, .pick (.t 71) (.t 80) (.c (.p (.b false))), none⟩]) (
              .cond (.l 81) (
                .reg [
                  ⟨.t 82, .mv (.l 0), none⟩,
                  ⟨.t 83, .fad 1 (.l 4), none⟩,
                  ⟨.t 84, .ld false 1 (.t 83), none⟩,
                  ⟨.t 85, .fad 4 (.l 6), none⟩,
                  ⟨.t 86, .ld false 1 (.t 85), none⟩,
                  ⟨.t 87, .ixs 1 (.t 84) (.t 86), none⟩,
                  ⟨.t 88, .ld false 1 (.t 87), none⟩,
                  ⟨.t 89, .call 80 [.t 82, .t 88], none⟩]) (
                .skip))) (
              .drw [
                ⟨.t 90, .mv (.l 0), none⟩,
                ⟨.t 91, .nilc (.t 90), none⟩,
                ⟨.t 92, .fad 2 (.t 91), none⟩,
                ⟨.t 93, .ld false 1 (.t 92), none⟩,
                ⟨.t 94, .fad 4 (.l 6), none⟩,
                ⟨.t 95, .ld false 1 (.t 94), none⟩] [
                ⟨.t 96, .ixs 1 (.t 93) (.t 95), none⟩,
                ⟨.no, .sto 1 (.t 96) (.c (.p (.b true))), none⟩])) (
              .skip))))))))))))) (
  .reg [
    ⟨.t 97, .mv (.l 0), none⟩,
    ⟨.t 98, .mv (.l 2), none⟩,
    ⟨.t 99, .bin .add (.t 98) (.c (.p (.i .i64 1))), none⟩,
    ⟨.t 100, .call 80 [.t 97, .t 99], none⟩])))
theorem mc81_eq : (Try.f81.body.map (compile lv81 Try.prog 101)) = some mc81 := by kernel_rfl
def mr81 : List MR := []
theorem mr81_eq : cRess lv81 Try.prog Try.f81.results.toList = some mr81 := by kernel_rfl
theorem call81 {args : List AV} {H : List AO} {Q : AV → List AO → Prop} (hla : args.length ≤ 101) (h : wpm (ACall Try.prog) mc81 (finK mr81 Q) ⟨argEnv 0 args, [], H⟩) : ACall Try.prog 81 args H Q :=
  acall_mc (by kernel_rfl) Try.func81 mc81_eq Try.ntmps81 (by kernel_rfl) mr81_eq hla h
def lv82 : List Nat := [0, 1, 2, 8]
def mc82 : MC :=
.seq (.reg [
    ⟨.t 4, .ld false 1 (.l 1), none⟩,
    ⟨.t 5, .mv (.l 0), none⟩,
    ⟨.t 6, .ixs 1 (.t 4) (.t 5), none⟩,
    ⟨.t 7, .ld false 1 (.t 6), none⟩,
    ⟨.l 8, .un .not (.t 7), none⟩]) (
  .cond (.l 8) (
    .seq (.reg [
      ⟨.t 9, .ld false 1 (.l 1), none⟩,
      ⟨.t 10, .mv (.l 0), none⟩,
      ⟨.t 11, .ixs 1 (.t 9) (.t 10), none⟩,
      ⟨.no, .sto 1 (.t 11) (.c (.p (.b true))), none⟩]) (
    .reg [
      ⟨.t 12, .ld false 1 (.l 2), none⟩,
      ⟨.t 13, .mv (.l 0), none⟩,
      ⟨.t 14, .bsl 1 [.p (.i .i64 0)] 1 [(0, (.t 13))], none⟩,
      ⟨.t 15, .app 1 8 (.t 12) (.t 14), none⟩,
      ⟨.no, .sto 1 (.l 2) (.t 15), none⟩])) (
    .skip))
theorem mc82_eq : (Try.f82.body.map (compile lv82 Try.prog 16)) = some mc82 := by kernel_rfl
def mr82 : List MR := []
theorem mr82_eq : cRess lv82 Try.prog Try.f82.results.toList = some mr82 := by kernel_rfl
theorem call82 {args : List AV} {H : List AO} {Q : AV → List AO → Prop} (hla : args.length ≤ 16) (h : wpm (ACall Try.prog) mc82 (finK mr82 Q) ⟨argEnv 0 args, [], H⟩) : ACall Try.prog 82 args H Q :=
  acall_mc (by kernel_rfl) Try.func82 mc82_eq Try.ntmps82 (by kernel_rfl) mr82_eq hla h
def lv83 : List Nat := [0, 1, 2, 3, 4, 5, 6, 7, 8, 9, 16]
def mc83 : MC :=
.seq (.reg [
    ⟨.l 6, .ld false 1 (.l 0), none⟩,
    ⟨.l 7, .len false (.l 6), none⟩,
    ⟨.l 8, .mv (.c (.p (.i .i64 0))), none⟩]) (
  .blk 0 (
    .loop (
      .seq (.reg [
        ⟨.l 9, .bin .lss (.l 8) (.l 7), none⟩]) (
      .seq (.cond (.l 9) (
        .skip) (
        .exit 0)) (
      .seq (.blk 1 (
        .seq (.reg [
          ⟨.t 10, .mv (.l 8), none⟩,
          ⟨.t 11, .ixs 1 (.l 6) (.l 8), none⟩,
          ⟨.t 12, .ld false 1 (.t 11), none⟩,
          ⟨.l 4, .mv (.t 10), none⟩,
          ⟨.l 5, .mv (.t 12), none⟩]) (
        .seq (.reg [
          ⟨.t 13, .ld false 1 (.l 1), none⟩,
          ⟨.t 14, .mv (.t 13), none⟩,
          ⟨.t 15, .mv (.l 5), some ((.t 14), true)⟩,
          ⟨.l 16, .pick (.t 14) (.t 15) (.c (.p (.b false))), none⟩]) (
        .cond (.l 16) (
          .drw [
            ⟨.t 17, .ld false 1 (.l 2), none⟩,
            ⟨.t 18, .fad 1 (.l 3), none⟩,
            ⟨.t 19, .ld false 1 (.t 18), none⟩,
            ⟨.t 20, .mv (.l 4), none⟩,
            ⟨.t 21, .ixs 1 (.t 19) (.t 20), none⟩,
            ⟨.t 22, .ld false 1 (.t 21), none⟩] [
            ⟨.t 23, .calv (.t 17) [.t 22], none⟩]) (
          .skip))))) (
      .reg [
        ⟨.t 24, .bin .add (.l 8) (.c (.p (.i .i64 1))), none⟩,
        ⟨.l 8, .mv (.t 24), none⟩]))))))
theorem mc83_eq : (Try.f83.body.map (compile lv83 Try.prog 25)) = some mc83 := by kernel_rfl
def mr83 : List MR := []
theorem mr83_eq : cRess lv83 Try.prog Try.f83.results.toList = some mr83 := by kernel_rfl
theorem call83 {args : List AV} {H : List AO} {Q : AV → List AO → Prop} (hla : args.length ≤ 25) (h : wpm (ACall Try.prog) mc83 (finK mr83 Q) ⟨argEnv 0 args, [], H⟩) : ACall Try.prog 83 args H Q :=
  acall_mc (by kernel_rfl) Try.func83 mc83_eq Try.ntmps83 (by kernel_rfl) mr83_eq hla h
end Go.Proofs.Ytmbggdfceecojaa.Mc

/- What is reached in a code: by the reference: a mark, a look. -/
set_option linter.all false
namespace Go.Proofs.Ytmbggdfceecojaa.Cd
open Go.AM Mc Ho

/-- the reference's state: at j; its lists at ids, idn; its places from lo on -/
structure WS (H : List AO) (j ids vs idn vn lo : Nat) (seen named : List Bool) (todo : List Nat) (g : Bool) : Prop where
  hj : ∃ t, H[j]? = some (.var [.gs ids vs 0 seen.length, t, .gs idn vn 0 named.length, .p (.b g)]) ∧ OwnP H t (natI todo) lo
  hs : H[ids]? = some (.rows 1 vs (boolR seen))
  hn : H[idn]? = some (.rows 1 vn (boolR named))
  ne : ids ≠ idn
  l1 : ids < lo
  l2 : idn < lo
  l3 : j < lo
  l4 : lo ≤ H.length

theorem WS.ext {H : List AO} {j ids vs idn vn lo : Nat} {seen named : List Bool} {todo : List Nat} {g : Bool} (h : WS H j ids vs idn vn lo seen named todo g) (A : List AO) : WS (H ++ A) j ids vs idn vn lo seen named todo g := by
  obtain ⟨t, h1, h2⟩ := h.hj
  exact ⟨⟨t, get_ext h1 _, h2.keep (X := fun _ => False) (fun k sz ver rs hk _ => get_ext hk _)⟩, get_ext h.hs _, get_ext h.hn _, h.ne, h.l1, h.l2, h.l3, by have := h.l4; simp; omega⟩
theorem WS.jn {H : List AO} {j ids vs idn vn lo : Nat} {seen named : List Bool} {todo : List Nat} {g : Bool} (h : WS H j ids vs idn vn lo seen named todo g) : ids ≠ j ∧ idn ≠ j := by
  obtain ⟨t, h1, _⟩ := h.hj
  exact ⟨fun e => (by have := h.hs; rw [e, h1] at this; cases this), fun e => (by have := h.hn; rw [e, h1] at this; cases this)⟩

theorem specReach {H : List AO} {j ids vs idn vn lo : Nat} {seen named : List Bool} {todo : List Nat} {g : Bool} (h : WS H j ids vs idn vn lo seen named todo g) {i : Nat} (hi : i < seen.length) (hl : todo.length ≤ 100000) :
    ACall Try.prog 80 [.ptr j 0, .p (.i .i64 i)] H (fun r H' => WS H' j ids vs idn vn lo (seen.set i true) named (if seen[i]? = some true then todo else todo ++ [i]) g ∧ SK lo (fun k => k = j ∨ k = ids) H H') := by
  obtain ⟨t, h1, h2⟩ := h.hj
  obtain ⟨n1, n2⟩ := h.jn
  have hi64 : (i : Int) < (seen.length : Int) := by omega
  refine call80 (by simp) ?_
  simp only [go_sem, Nat.reduceEqDiff, reduceIte, ↓reduceIte, Nat.reduceAdd, List.replicate_succ, List.replicate_zero, List.set_cons_zero, List.set_cons_succ, List.length_cons, List.length_nil, Nat.reduceLT, Nat.lt_add_one, ne_eq, Int.reduceEq, not_false_eq_true, Option.map_some, Nat.reduceLeDiff, Nat.zero_lt_succ, List.map_cons, List.map_nil, List.nil_append, List.cons_append, List.append_nil, bytesOf, List.take_succ_cons, List.take_zero, List.drop_zero, and_self, List.append_assoc, List.length_append, Int.reduceLT, Int.reduceLE, Int.toNat_zero, Int.reduceToNat, Int.cast_ofNat_Int, Int.natCast_zero, Int.natCast_one, Int.reduceAdd, List.map_append, Option.bind_some, mc80, mr80, h1, h.hs, boolR_at hi]
  refine ⟨hi64, ?_⟩
  refine condK_split _ (fun hc => ?_) (fun hc => ?_)
  · have hf : seen[i] = false := by simpa using hc
    simp only [go_sem, Nat.reduceEqDiff, reduceIte, ↓reduceIte, Nat.reduceAdd, List.replicate_succ, List.replicate_zero, List.set_cons_zero, List.set_cons_succ, List.length_cons, List.length_nil, Nat.reduceLT, Nat.lt_add_one, ne_eq, Int.reduceEq, not_false_eq_true, Option.map_some, Nat.reduceLeDiff, Nat.zero_lt_succ, List.map_cons, List.map_nil, List.nil_append, List.cons_append, List.append_nil, bytesOf, List.take_succ_cons, List.take_zero, List.drop_zero, and_self, List.append_assoc, List.length_append, Int.reduceLT, Int.reduceLE, Int.toNat_zero, Int.reduceToNat, Int.cast_ofNat_Int, Int.natCast_zero, Int.natCast_one, Int.reduceAdd, List.map_append, Option.bind_some, h1, h.hs, boolR_at hi]
    refine ⟨hi64, ?_⟩
    rw [stoR_at (boolR_at hi) rfl, boolR_set]
    have e1 : (H.set ids (.rows 1 vs (boolR (seen.set i true))))[j]? = some (.var [.gs ids vs 0 seen.length, t, .gs idn vn 0 named.length, .p (.b g)]) := get_set h1 n1
    have hl2 : (H.set ids (.rows 1 vs (boolR (seen.set i true)))).length = H.length := by simp
    have k1 : SK lo (fun k => k = j ∨ k = ids) H (H.set ids (.rows 1 vs (boolR (seen.set i true)))) := SK.set (.inr rfl)
    have o1 : OwnP (H.set ids (.rows 1 vs (boolR (seen.set i true)))) t (natI todo) lo := h2.keep (X := fun _ => False) (fun k sz ver rs hk hlo => get_set hk (by have := h.l1; omega))
    have s1 : (H.set ids (.rows 1 vs (boolR (seen.set i true))))[ids]? = some (.rows 1 vs (boolR (seen.set i true))) := set_get h.hs
    have m1 : (H.set ids (.rows 1 vs (boolR (seen.set i true))))[idn]? = some (.rows 1 vn (boolR named)) := get_set h.hn h.ne
    generalize H.set ids (.rows 1 vs (boolR (seen.set i true))) = H1 at e1 hl2 k1 o1 s1 m1 ⊢
    simp only [go_sem, Nat.reduceEqDiff, reduceIte, ↓reduceIte, Nat.reduceAdd, List.replicate_succ, List.replicate_zero, List.set_cons_zero, List.set_cons_succ, List.length_cons, List.length_nil, Nat.reduceLT, Nat.lt_add_one, ne_eq, Int.reduceEq, not_false_eq_true, Option.map_some, Nat.reduceLeDiff, Nat.zero_lt_succ, List.map_cons, List.map_nil, List.nil_append, List.cons_append, List.append_nil, bytesOf, List.take_succ_cons, List.take_zero, List.drop_zero, and_self, List.append_assoc, List.length_append, Int.reduceLT, Int.reduceLE, Int.toNat_zero, Int.reduceToNat, Int.cast_ofNat_Int, Int.natCast_zero, Int.natCast_one, Int.reduceAdd, List.map_append, Option.bind_some, e1]
    refine ⟨by simp, app_ownP (o1.keep (X := fun _ => False) (fun k sz ver rs hk _ => get_ext hk _)) (by have := h.l4; simp; omega) _ (by rw [natI_len]; exact hl) fun a' H2 ho2 hk2 => ?_⟩
    have e2 := hk2.1 j _ (get_ext e1 _) (fun f => f)
    have s2 : H2[ids]? = some (.rows 1 vs (boolR (seen.set i true))) := by rw [hk2.2.1 ids h.l1 (fun f => f)]; exact get_ext s1 _
    have m2 : H2[idn]? = some (.rows 1 vn (boolR named)) := by rw [hk2.2.1 idn h.l2 (fun f => f)]; exact get_ext m1 _
    have hone : AV.allOne a' = true ∧ AV.cells a' = [a'] := by
      rcases ho2 with ⟨rfl, _⟩ | ⟨id, ver, rs, _, rfl, _⟩
      · exact ⟨rfl, rfl⟩
      · exact ⟨rfl, rfl⟩
    simp only [go_sem, Nat.reduceEqDiff, reduceIte, ↓reduceIte, Nat.reduceAdd, List.replicate_succ, List.replicate_zero, List.set_cons_zero, List.set_cons_succ, List.length_cons, List.length_nil, Nat.reduceLT, Nat.lt_add_one, ne_eq, Int.reduceEq, not_false_eq_true, Option.map_some, Nat.reduceLeDiff, Nat.zero_lt_succ, List.map_cons, List.map_nil, List.nil_append, List.cons_append, List.append_nil, bytesOf, List.take_succ_cons, List.take_zero, List.drop_zero, and_self, List.append_assoc, List.length_append, Int.reduceLT, Int.reduceLE, Int.toNat_zero, Int.reduceToNat, Int.cast_ofNat_Int, Int.natCast_zero, Int.natCast_one, Int.reduceAdd, List.map_append, Option.bind_some, e2, hone.1, hone.2]
    have hne : ¬ seen[i]? = some true := by rw [List.getElem?_eq_getElem hi, hf]; simp
    rw [if_neg hne]
    have l2 := get_lt e2
    refine ⟨⟨⟨a', by rw [List.length_set]; exact set_get e2, ?_⟩, get_set s2 (fun e => n1 e.symm), get_set m2 (fun e => n2 e.symm), h.ne, h.l1, h.l2, h.l3, ?_⟩, ?_⟩
    · have : natI (todo ++ [i]) = natI todo ++ [(i : Int)] := by simp [natI]
      rw [this]
      exact ho2.keep (X := fun _ => False) (fun k sz ver rs hk hlo => get_set hk (by have := h.l3; omega))
    · have h3 := hk2.2.2; have h4 := h.l4; simp at h3 ⊢; omega
    · refine SK.trans k1 (SK.trans (SK.app (B := [.rows 1 0 [[.p (.i .i64 i)]]]) (by have := h.l4; omega)) (SK.trans (hk2.weak (fun k f => f.elim)) (SK.set (.inl rfl))))
  · have hf : seen[i]? = some true := by
      rw [List.getElem?_eq_getElem hi]; simpa using hc
    simp only [go_sem, Nat.reduceEqDiff, reduceIte, ↓reduceIte, Nat.reduceAdd, List.replicate_succ, List.replicate_zero, List.set_cons_zero, List.set_cons_succ, List.length_cons, List.length_nil, Nat.reduceLT, Nat.lt_add_one, ne_eq, Int.reduceEq, not_false_eq_true, Option.map_some, Nat.reduceLeDiff, Nat.zero_lt_succ, List.map_cons, List.map_nil, List.nil_append, List.cons_append, List.append_nil, bytesOf, List.take_succ_cons, List.take_zero, List.drop_zero, and_self, List.append_assoc, List.length_append, Int.reduceLT, Int.reduceLE, Int.toNat_zero, Int.reduceToNat, Int.cast_ofNat_Int, Int.natCast_zero, Int.natCast_one, Int.reduceAdd, List.map_append, Option.bind_some]
    rw [if_pos hf, set_true_same hf]
    exact ⟨h, SK.refl _ _ _⟩

/-- a mark, with what is known of the search -/
theorem specMark {c : CodeD} {E : Nat → Prop} {H : List AO} {j ids vs idn vn lo : Nat} {seen named : List Bool} {todo : List Nat} {g : Bool} (hw : WF c) (h : WS H j ids vs idn vn lo seen named todo g) (hv : Inv c E seen named todo g) (hcnt : cnt seen todo ≤ 100000) {n : Int} (hn0 : 0 ≤ n) (hn : n.toNat < c.ins.length) (hr : Rch c n.toNat) :
    ACall Try.prog 80 [.ptr j 0, .p (.i .i64 n)] H (fun r H' => ∃ seen' todo', WS H' j ids vs idn vn lo seen' named todo' g ∧ Marked c E seen named todo g n.toNat seen' todo' ∧ SK lo (fun k => k = j ∨ k = ids) H H') := by
  have e : n = ((n.toNat : Nat) : Int) := by omega
  have hl : todo.length ≤ 100000 := by unfold cnt at hcnt; omega
  have := specReach h (i := n.toNat) (by rw [hv.ls]; exact hn) hl
  rw [← e] at this
  exact this.mono fun r H' ⟨h1, h2⟩ => ⟨_, _, h1, marked hv hn hr, h2⟩
end Go.Proofs.Ytmbggdfceecojaa.Cd

/- What is reached in a code: by the reference: a look. -/
set_option linter.all false
namespace Go.Proofs.Ytmbggdfceecojaa.Cd
open Go.AM Mc Ho

theorem inss_get {l : List InsD} {i : Nat} {x : InsD} (h : l[i]? = some x) : (inss l)[i]? = some x.cells := by simp [inss, h]
theorem ints_get' {l : List Int} {i : Nat} {x : Int} (h : l[i]? = some x) : (ints l)[i]? = some [.i .i64 x] := by simp [ints, h]

theorem WS.named {H : List AO} {j ids vs idn vn lo : Nat} {seen named : List Bool} {todo : List Nat} {g : Bool} (h : WS H j ids vs idn vn lo seen named todo g) (i : Nat) : WS (H.set idn (.rows 1 vn (boolR (named.set i true)))) j ids vs idn vn lo seen (named.set i true) todo g := by
  obtain ⟨t, h1, h2⟩ := h.hj
  obtain ⟨n1, n2⟩ := h.jn
  exact ⟨⟨t, by rw [List.length_set]; exact get_set h1 n2, h2.keep (X := fun _ => False) (fun k sz ver rs hk hlo => get_set hk (by have := h.l2; omega))⟩, get_set h.hs (fun e => h.ne e.symm), set_get h.hn, h.ne, h.l1, h.l2, h.l3, by have := h.l4; simp; omega⟩

theorem Gd.mono {c : CodeD} {seen seen' named : List Bool} {g : Bool} {n : Nat} (h : Gd c seen named g n) (hm : ∀ k : Nat, seen[k]? = some true → seen'[k]? = some true) : Gd c seen' named g n :=
  fun k hk hn hg s hs => hm _ (h k hk hn hg s hs)
theorem WS.goes {H : List AO} {j ids vs idn vn lo : Nat} {seen named : List Bool} {todo : List Nat} {g : Bool} (h : WS H j ids vs idn vn lo seen named todo g) {t : AV} (h1 : H[j]? = some (.var [.gs ids vs 0 seen.length, t, .gs idn vn 0 named.length, .p (.b g)])) (g' : Bool) :
    WS (H.set j (.var [.gs ids vs 0 seen.length, t, .gs idn vn 0 named.length, .p (.b g')])) j ids vs idn vn lo seen named todo g' := by
  obtain ⟨t', h1', h2⟩ := h.hj
  rw [h1] at h1'
  cases h1'
  obtain ⟨n1, n2⟩ := h.jn
  exact ⟨⟨t, set_get h1, h2.keep (X := fun _ => False) (fun k sz ver rs hk hlo => get_set hk (by have := h.l3; omega))⟩, get_set h.hs (fun e => n1 e.symm), get_set h.hn (fun e => n2 e.symm), h.ne, h.l1, h.l2, h.l3, by have := h.l4; simp; omega⟩

/-- what a look leaves behind -/
def Looked (c : CodeD) (j ids vs idn vn lo : Nat) (H : List AO) (seen : List Bool) (todo : List Nat) (H' : List AO) : Prop :=
  ∃ seen' named' todo' g', WS H' j ids vs idn vn lo seen' named' todo' g' ∧ Inv c (fun _ => False) seen' named' todo' g' ∧ Gd c seen' named' g' c.starts.length ∧ cnt seen' todo' ≤ cnt seen todo ∧ SK lo (fun k => k = j ∨ k = ids ∨ k = idn) H H'

set_option maxHeartbeats 2000000 in
theorem specLook {c : CodeD} (hok : okCode c) (hw : WF c) {H : List AO} {j ids vs idn vn lo : Nat} {seen named : List Bool} {todo : List Nat} {g : Bool} {i : Nat} (h : WS H j ids vs idn vn lo seen named todo g) (hv : Inv c (fun k => k = i) seen named todo g) (hg : Gd c seen named g c.starts.length)
    (hcnt : cnt seen todo ≤ 100000) (hi : i < c.ins.length) (hr : Rch c i) :
    ACall Try.prog 81 [.ptr j 0, .st (c.cells.map .p), .p (.i .i64 i)] H (fun r H' => Looked c j ids vs idn vn lo H seen todo H') := by
  have hl1 : c.ins.length ≤ maxL := hok.1.1
  have hx : c.ins[i]? = some c.ins[i] := List.getElem?_eq_getElem hi
  generalize c.ins[i] = x at hx
  have hxi := inss_get hx
  have i1 : wr .i64 ((i : Int) + 1) = ((i + 1 : Nat) : Int) := wr1 hi hl1
  refine call81 (by simp) ?_
  simp only [go_sem, Nat.reduceEqDiff, reduceIte, ↓reduceIte, Nat.reduceAdd, List.replicate_succ, List.replicate_zero, List.set_cons_zero, List.set_cons_succ, List.length_cons, List.length_nil, Nat.reduceLT, Nat.lt_add_one, ne_eq, Int.reduceEq, not_false_eq_true, Option.map_some, Nat.reduceLeDiff, Nat.zero_lt_succ, List.map_cons, List.map_nil, List.nil_append, List.cons_append, List.append_nil, bytesOf, List.take_succ_cons, List.take_zero, List.drop_zero, and_self, List.append_assoc, List.length_append, Int.reduceLT, Int.reduceLE, Int.toNat_zero, Int.reduceToNat, Int.cast_ofNat_Int, Int.natCast_zero, Int.natCast_one, Int.reduceAdd, List.map_append, Option.bind_some, mc81, mr81, CodeD.cells, hxi, ins_clen, ins_take, InsD.cells]
  have h1 := h.ext [AO.var [.p (.l (inss c.ins)), .p (.l (ints c.starts))], .var [.p (.i .i64 x.op), .p (.i .i64 x.a), .p (.i .i64 x.b), .p (.i .i64 x.c), .p (.i .i64 x.n), .p (.s x.text)]]
  have k1 : SK lo (fun k => k = j ∨ k = ids ∨ k = idn) H (H ++ [AO.var [.p (.l (inss c.ins)), .p (.l (ints c.starts))], .var [.p (.i .i64 x.op), .p (.i .i64 x.a), .p (.i .i64 x.b), .p (.i .i64 x.c), .p (.i .i64 x.n), .p (.s x.text)]]) := SK.app h.l4
  have b0 : (H ++ [AO.var [.p (.l (inss c.ins)), .p (.l (ints c.starts))], .var [.p (.i .i64 x.op), .p (.i .i64 x.a), .p (.i .i64 x.b), .p (.i .i64 x.c), .p (.i .i64 x.n), .p (.s x.text)]])[H.length]? = some (.var [.p (.l (inss c.ins)), .p (.l (ints c.starts))]) := get_off0 _ _
  have b1 : (H ++ [AO.var [.p (.l (inss c.ins)), .p (.l (ints c.starts))], .var [.p (.i .i64 x.op), .p (.i .i64 x.a), .p (.i .i64 x.b), .p (.i .i64 x.c), .p (.i .i64 x.n), .p (.s x.text)]])[H.length + 1]? = some (.var [.p (.i .i64 x.op), .p (.i .i64 x.a), .p (.i .i64 x.b), .p (.i .i64 x.c), .p (.i .i64 x.n), .p (.s x.text)]) := get_off _ _ 1
  generalize H ++ [AO.var [.p (.l (inss c.ins)), .p (.l (ints c.starts))], .var [.p (.i .i64 x.op), .p (.i .i64 x.a), .p (.i .i64 x.b), .p (.i .i64 x.c), .p (.i .i64 x.n), .p (.s x.text)]] = H1 at h1 k1 b0 b1 ⊢
  have kk : ∀ {a b : List AO}, SK lo (fun k => k = j ∨ k = ids) a b → SK lo (fun k => k = j ∨ k = ids ∨ k = idn) a b := fun h => h.weak (fun k hk => hk.elim .inl (fun e => .inr (.inl e)))
  have hlo := h.l4
  have hX0 : ¬ (H.length = j ∨ H.length = ids ∨ H.length = idn) := by have := h.l1; have := h.l2; have := h.l3; omega
  have hX1 : ¬ (H.length + 1 = j ∨ H.length + 1 = ids ∨ H.length + 1 = idn) := by have := h.l1; have := h.l2; have := h.l3; omega
  -- where nothing follows
  have stop : (x.op = 14 ∨ x.op = 15) → Looked c j ids vs idn vn lo H seen todo H1 := fun ho => ⟨seen, named, todo, g, h1, hv.done (fun y hy => by
    rw [hx] at hy; cases hy
    exact ⟨fun o => by omega, fun f => by unfold falls at f; omega, fun o => by omega, fun o => by omega⟩), hg, Nat.le_refl _, k1⟩
  by_cases h14 : x.op = 14
  · simp only [go_sem, Nat.reduceEqDiff, reduceIte, ↓reduceIte, Nat.reduceAdd, List.replicate_succ, List.replicate_zero, List.set_cons_zero, List.set_cons_succ, List.length_cons, List.length_nil, Nat.reduceLT, Nat.lt_add_one, ne_eq, Int.reduceEq, not_false_eq_true, Option.map_some, Nat.reduceLeDiff, Nat.zero_lt_succ, List.map_cons, List.map_nil, List.nil_append, List.cons_append, List.append_nil, bytesOf, List.take_succ_cons, List.take_zero, List.drop_zero, and_self, List.append_assoc, List.length_append, Int.reduceLT, Int.reduceLE, Int.toNat_zero, Int.reduceToNat, Int.cast_ofNat_Int, Int.natCast_zero, Int.natCast_one, Int.reduceAdd, List.map_append, Option.bind_some, h14]
    exact stop (.inl h14)
  by_cases h15 : x.op = 15
  · simp only [go_sem, Nat.reduceEqDiff, reduceIte, ↓reduceIte, Nat.reduceAdd, List.replicate_succ, List.replicate_zero, List.set_cons_zero, List.set_cons_succ, List.length_cons, List.length_nil, Nat.reduceLT, Nat.lt_add_one, ne_eq, Int.reduceEq, not_false_eq_true, Option.map_some, Nat.reduceLeDiff, Nat.zero_lt_succ, List.map_cons, List.map_nil, List.nil_append, List.cons_append, List.append_nil, bytesOf, List.take_succ_cons, List.take_zero, List.drop_zero, and_self, List.append_assoc, List.length_append, Int.reduceLT, Int.reduceLE, Int.toNat_zero, Int.reduceToNat, Int.cast_ofNat_Int, Int.natCast_zero, Int.natCast_one, Int.reduceAdd, List.map_append, Option.bind_some, h15]
    exact stop (.inr h15)
  by_cases h12 : x.op = 12
  · obtain ⟨n0, n1⟩ := hw.jump i x hx (.inl h12)
    simp only [go_sem, Nat.reduceEqDiff, reduceIte, ↓reduceIte, Nat.reduceAdd, List.replicate_succ, List.replicate_zero, List.set_cons_zero, List.set_cons_succ, List.length_cons, List.length_nil, Nat.reduceLT, Nat.lt_add_one, ne_eq, Int.reduceEq, not_false_eq_true, Option.map_some, Nat.reduceLeDiff, Nat.zero_lt_succ, List.map_cons, List.map_nil, List.nil_append, List.cons_append, List.append_nil, bytesOf, List.take_succ_cons, List.take_zero, List.drop_zero, and_self, List.append_assoc, List.length_append, Int.reduceLT, Int.reduceLE, Int.toNat_zero, Int.reduceToNat, Int.cast_ofNat_Int, Int.natCast_zero, Int.natCast_one, Int.reduceAdd, List.map_append, Option.bind_some, h12, b1]
    refine (specMark hw h1 hv hcnt n0 n1 (.jump i x hr hx (.inl h12))).mono ?_
    rintro r H2 ⟨seen', todo', h2, hm, k2⟩
    simp only [go_sem, Nat.reduceEqDiff, reduceIte, ↓reduceIte, Nat.reduceAdd, List.replicate_succ, List.replicate_zero, List.set_cons_zero, List.set_cons_succ, List.length_cons, List.length_nil, Nat.reduceLT, Nat.lt_add_one, ne_eq, Int.reduceEq, not_false_eq_true, Option.map_some, Nat.reduceLeDiff, Nat.zero_lt_succ, List.map_cons, List.map_nil, List.nil_append, List.cons_append, List.append_nil, bytesOf, List.take_succ_cons, List.take_zero, List.drop_zero, and_self, List.append_assoc, List.length_append, Int.reduceLT, Int.reduceLE, Int.toNat_zero, Int.reduceToNat, Int.cast_ofNat_Int, Int.natCast_zero, Int.natCast_one, Int.reduceAdd, List.map_append, Option.bind_some]
    exact ⟨seen', named, todo', g, h2, hm.inv.done (fun y hy => by
      rw [hx] at hy; cases hy
      exact ⟨fun _ => hm.at', fun f => by unfold falls at f; omega, fun o => by omega, fun o => by omega⟩), hg.mono hm.mono, hm.cnt, k1.trans (kk k2)⟩
  by_cases h13 : x.op = 13
  · simp only [go_sem, Nat.reduceEqDiff, reduceIte, ↓reduceIte, Nat.reduceAdd, List.replicate_succ, List.replicate_zero, List.set_cons_zero, List.set_cons_succ, List.length_cons, List.length_nil, Nat.reduceLT, Nat.lt_add_one, ne_eq, Int.reduceEq, not_false_eq_true, Option.map_some, Nat.reduceLeDiff, Nat.zero_lt_succ, List.map_cons, List.map_nil, List.nil_append, List.cons_append, List.append_nil, bytesOf, List.take_succ_cons, List.take_zero, List.drop_zero, and_self, List.append_assoc, List.length_append, Int.reduceLT, Int.reduceLE, Int.toNat_zero, Int.reduceToNat, Int.cast_ofNat_Int, Int.natCast_zero, Int.natCast_one, Int.reduceAdd, List.map_append, Option.bind_some, h13, b1]
    have dn : ∀ seen' : List Bool, Done c seen' named true i := fun seen' y hy => by
      rw [hx] at hy; cases hy
      exact ⟨fun o => by omega, fun f => by unfold falls at f; omega, fun _ => rfl, fun o => by omega⟩
    refine ⟨Nat × List Bool × List Nat × List AO, [0, 4, 7], fun y st => y.1 ≤ named.length ∧ WS y.2.2.2 j ids vs idn vn lo y.2.1 named y.2.2.1 g ∧ Inv c (fun k => k = i) y.2.1 named y.2.2.1 g ∧ Gd c y.2.1 named g c.starts.length ∧ Gd c y.2.1 named true (if g = true then 0 else y.1) ∧
      cnt y.2.1 y.2.2.1 ≤ cnt seen todo ∧ SK lo (fun k => k = j ∨ k = ids ∨ k = idn) H1 y.2.2.2 ∧ st = ⟨[(0, .ptr j 0), (4, .ptr H.length 0), (7, .p (.i .i64 y.1))], [], y.2.2.2⟩, fun y => named.length - y.1, ⟨⟨0, seen, todo, H1⟩, ?_⟩, ?_⟩
    · simp only [go_sem, Nat.reduceEqDiff, reduceIte, ↓reduceIte, Nat.reduceAdd, List.replicate_succ, List.replicate_zero, List.set_cons_zero, List.set_cons_succ, List.length_cons, List.length_nil, Nat.reduceLT, Nat.lt_add_one, ne_eq, Int.reduceEq, not_false_eq_true, Option.map_some, Nat.reduceLeDiff, Nat.zero_lt_succ, List.map_cons, List.map_nil, List.nil_append, List.cons_append, List.append_nil, bytesOf, List.take_succ_cons, List.take_zero, List.drop_zero, and_self, List.append_assoc, List.length_append, Int.reduceLT, Int.reduceLE, Int.toNat_zero, Int.reduceToNat, Int.cast_ofNat_Int, Int.natCast_zero, Int.natCast_one, Int.reduceAdd, List.map_append, Option.bind_some]
      exact ⟨Nat.zero_le _, h1, hv, hg, (fun k hk => by simp at hk), Nat.le_refl _, SK.refl _ _ _⟩
    rintro ⟨k, seen1, todo1, H2⟩ st ⟨hk, h2, hv2, hg2, hgk, hc2, k2, rfl⟩
    simp only at hk h2 hv2 hg2 hgk hc2 k2
    obtain ⟨t, e1, e2⟩ := h2.hj
    have bb := k2.1 _ _ b0 hX0
    have fin : Gd c seen1 named true c.starts.length → Looked c j ids vs idn vn lo H seen todo (H2.set j (.var [.gs ids vs 0 seen1.length, t, .gs idn vn 0 named.length, .p (.b true)])) := fun hgd =>
      ⟨seen1, named, todo1, true, h2.goes e1 true, (hv2.goes hr hx h13).done (dn _), hgd, hc2, k1.trans (k2.trans (SK.set (.inl rfl)))⟩
    simp only [go_sem, Nat.reduceEqDiff, reduceIte, ↓reduceIte, Nat.reduceAdd, List.replicate_succ, List.replicate_zero, List.set_cons_zero, List.set_cons_succ, List.length_cons, List.length_nil, Nat.reduceLT, Nat.lt_add_one, ne_eq, Int.reduceEq, not_false_eq_true, Option.map_some, Nat.reduceLeDiff, Nat.zero_lt_succ, List.map_cons, List.map_nil, List.nil_append, List.cons_append, List.append_nil, bytesOf, List.take_succ_cons, List.take_zero, List.drop_zero, and_self, List.append_assoc, List.length_append, Int.reduceLT, Int.reduceLE, Int.toNat_zero, Int.reduceToNat, Int.cast_ofNat_Int, Int.natCast_zero, Int.natCast_one, Int.reduceAdd, List.map_append, Option.bind_some, e1]
    intro _
    refine condK_split _ (fun hd => ?_) (fun hd => ?_)
    · have hkn : k < named.length := by simpa using hd
      have hks : k < c.starts.length := by rw [← hv2.ln]; exact hkn
      simp only [go_sem, Nat.reduceEqDiff, reduceIte, ↓reduceIte, Nat.reduceAdd, List.replicate_succ, List.replicate_zero, List.set_cons_zero, List.set_cons_succ, List.length_cons, List.length_nil, Nat.reduceLT, Nat.lt_add_one, ne_eq, Int.reduceEq, not_false_eq_true, Option.map_some, Nat.reduceLeDiff, Nat.zero_lt_succ, List.map_cons, List.map_nil, List.nil_append, List.cons_append, List.append_nil, bytesOf, List.take_succ_cons, List.take_zero, List.drop_zero, and_self, List.append_assoc, List.length_append, Int.reduceLT, Int.reduceLE, Int.toNat_zero, Int.reduceToNat, Int.cast_ofNat_Int, Int.natCast_zero, Int.natCast_one, Int.reduceAdd, List.map_append, Option.bind_some, hd, e1]
      refine condK_split _ (fun hgf => ?_) (fun hgf => ?_)
      · have hgf' : g = false := by simpa using hgf
        simp only [go_sem, Nat.reduceEqDiff, reduceIte, ↓reduceIte, Nat.reduceAdd, List.replicate_succ, List.replicate_zero, List.set_cons_zero, List.set_cons_succ, List.length_cons, List.length_nil, Nat.reduceLT, Nat.lt_add_one, ne_eq, Int.reduceEq, not_false_eq_true, Option.map_some, Nat.reduceLeDiff, Nat.zero_lt_succ, List.map_cons, List.map_nil, List.nil_append, List.cons_append, List.append_nil, bytesOf, List.take_succ_cons, List.take_zero, List.drop_zero, and_self, List.append_assoc, List.length_append, Int.reduceLT, Int.reduceLE, Int.toNat_zero, Int.reduceToNat, Int.cast_ofNat_Int, Int.natCast_zero, Int.natCast_one, Int.reduceAdd, List.map_append, Option.bind_some, e1, h2.hn, boolR_at hkn]
        refine ⟨by simpa using hd, ?_⟩
        refine condK_split _ (fun hb => ?_) (fun hb => ?_)
        · simp only [go_sem, Nat.reduceEqDiff, reduceIte, ↓reduceIte, Nat.reduceAdd, List.replicate_succ, List.replicate_zero, List.set_cons_zero, List.set_cons_succ, List.length_cons, List.length_nil, Nat.reduceLT, Nat.lt_add_one, ne_eq, Int.reduceEq, not_false_eq_true, Option.map_some, Nat.reduceLeDiff, Nat.zero_lt_succ, List.map_cons, List.map_nil, List.nil_append, List.cons_append, List.append_nil, bytesOf, List.take_succ_cons, List.take_zero, List.drop_zero, and_self, List.append_assoc, List.length_append, Int.reduceLT, Int.reduceLE, Int.toNat_zero, Int.reduceToNat, Int.cast_ofNat_Int, Int.natCast_zero, Int.natCast_one, Int.reduceAdd, List.map_append, Option.bind_some, bb, ints_at _ hks]
          obtain ⟨s0, s1⟩ := hw.start k _ (List.getElem?_eq_getElem hks)
          obtain ⟨i', y, q1, q2, q3, q4⟩ := hv2.sn k (by rw [List.getElem?_eq_getElem hkn, hb])
          refine (specMark hw h2 hv2 (Nat.le_trans hc2 hcnt) s0 s1 (.go i x i' y _ hr hx h13 q1 q2 q3 (by rw [q4]; exact List.getElem?_eq_getElem hks))).mono ?_
          rintro r H3 ⟨seen3, todo3, h3, hm3, k3⟩
          simp only [go_sem, Nat.reduceEqDiff, reduceIte, ↓reduceIte, Nat.reduceAdd, List.replicate_succ, List.replicate_zero, List.set_cons_zero, List.set_cons_succ, List.length_cons, List.length_nil, Nat.reduceLT, Nat.lt_add_one, ne_eq, Int.reduceEq, not_false_eq_true, Option.map_some, Nat.reduceLeDiff, Nat.zero_lt_succ, List.map_cons, List.map_nil, List.nil_append, List.cons_append, List.append_nil, bytesOf, List.take_succ_cons, List.take_zero, List.drop_zero, and_self, List.append_assoc, List.length_append, Int.reduceLT, Int.reduceLE, Int.toNat_zero, Int.reduceToNat, Int.cast_ofNat_Int, Int.natCast_zero, Int.natCast_one, Int.reduceAdd, List.map_append, Option.bind_some]
          refine ⟨⟨k + 1, seen3, todo3, H3⟩, ⟨hkn, h3, hm3.inv, hg2.mono hm3.mono, ?_, Nat.le_trans hm3.cnt hc2, k2.trans (kk k3), ?_⟩, by simp only; omega⟩
          · rw [if_neg (by simp [hgf'])] at hgk ⊢
            intro q hq hnq _ s hs
            by_cases e : q = k
            · subst e
              rw [List.getElem?_eq_getElem hks] at hs
              cases hs
              exact hm3.at'
            · exact hm3.mono _ (hgk q (by omega) hnq rfl s hs)
          · rw [wr1 hkn (by have := hw.les; rw [hv2.ln]; unfold maxL; omega)]
        · simp only [go_sem, Nat.reduceEqDiff, reduceIte, ↓reduceIte, Nat.reduceAdd, List.replicate_succ, List.replicate_zero, List.set_cons_zero, List.set_cons_succ, List.length_cons, List.length_nil, Nat.reduceLT, Nat.lt_add_one, ne_eq, Int.reduceEq, not_false_eq_true, Option.map_some, Nat.reduceLeDiff, Nat.zero_lt_succ, List.map_cons, List.map_nil, List.nil_append, List.cons_append, List.append_nil, bytesOf, List.take_succ_cons, List.take_zero, List.drop_zero, and_self, List.append_assoc, List.length_append, Int.reduceLT, Int.reduceLE, Int.toNat_zero, Int.reduceToNat, Int.cast_ofNat_Int, Int.natCast_zero, Int.natCast_one, Int.reduceAdd, List.map_append, Option.bind_some]
          refine ⟨⟨k + 1, seen1, todo1, H2⟩, ⟨hkn, h2, hv2, hg2, ?_, hc2, k2, ?_⟩, by simp only; omega⟩
          · rw [if_neg (by simp [hgf'])] at hgk ⊢
            intro q hq hnq _ s hs
            by_cases e : q = k
            · subst e
              rw [List.getElem?_eq_getElem hkn, hb] at hnq
              cases hnq
            · exact hgk q (by omega) hnq rfl s hs
          · rw [wr1 hkn (by have := hw.les; rw [hv2.ln]; unfold maxL; omega)]
      · have hgt : g = true := by simpa using hgf
        simp only [go_sem, Nat.reduceEqDiff, reduceIte, ↓reduceIte, Nat.reduceAdd, List.replicate_succ, List.replicate_zero, List.set_cons_zero, List.set_cons_succ, List.length_cons, List.length_nil, Nat.reduceLT, Nat.lt_add_one, ne_eq, Int.reduceEq, not_false_eq_true, Option.map_some, Nat.reduceLeDiff, Nat.zero_lt_succ, List.map_cons, List.map_nil, List.nil_append, List.cons_append, List.append_nil, bytesOf, List.take_succ_cons, List.take_zero, List.drop_zero, and_self, List.append_assoc, List.length_append, Int.reduceLT, Int.reduceLE, Int.toNat_zero, Int.reduceToNat, Int.cast_ofNat_Int, Int.natCast_zero, Int.natCast_one, Int.reduceAdd, List.map_append, Option.bind_some, e1]
        exact fin (hgt ▸ hg2)
    · have hkn : k = named.length := by simp at hd; omega
      simp only [go_sem, Nat.reduceEqDiff, reduceIte, ↓reduceIte, Nat.reduceAdd, List.replicate_succ, List.replicate_zero, List.set_cons_zero, List.set_cons_succ, List.length_cons, List.length_nil, Nat.reduceLT, Nat.lt_add_one, ne_eq, Int.reduceEq, not_false_eq_true, Option.map_some, Nat.reduceLeDiff, Nat.zero_lt_succ, List.map_cons, List.map_nil, List.nil_append, List.cons_append, List.append_nil, bytesOf, List.take_succ_cons, List.take_zero, List.drop_zero, and_self, List.append_assoc, List.length_append, Int.reduceLT, Int.reduceLE, Int.toNat_zero, Int.reduceToNat, Int.cast_ofNat_Int, Int.natCast_zero, Int.natCast_one, Int.reduceAdd, List.map_append, Option.bind_some, hd, e1]
      refine fin ?_
      cases g with
      | true => exact hg2
      | false =>
        rw [if_neg (by simp), hkn, hv2.ln] at hgk
        exact hgk
  have hfall : falls x.op := ⟨h12, h13, h14, h15⟩
  have hnx := hw.next i x hx hfall
  by_cases h11 : x.op = 11
  · obtain ⟨n0, n1⟩ := hw.jump i x hx (.inr h11)
    simp only [go_sem, Nat.reduceEqDiff, reduceIte, ↓reduceIte, Nat.reduceAdd, List.replicate_succ, List.replicate_zero, List.set_cons_zero, List.set_cons_succ, List.length_cons, List.length_nil, Nat.reduceLT, Nat.lt_add_one, ne_eq, Int.reduceEq, not_false_eq_true, Option.map_some, Nat.reduceLeDiff, Nat.zero_lt_succ, List.map_cons, List.map_nil, List.nil_append, List.cons_append, List.append_nil, bytesOf, List.take_succ_cons, List.take_zero, List.drop_zero, and_self, List.append_assoc, List.length_append, Int.reduceLT, Int.reduceLE, Int.toNat_zero, Int.reduceToNat, Int.cast_ofNat_Int, Int.natCast_zero, Int.natCast_one, Int.reduceAdd, List.map_append, Option.bind_some, h11, b1]
    refine (specMark hw h1 hv hcnt n0 n1 (.jump i x hr hx (.inr h11))).mono ?_
    rintro r H2 ⟨seen', todo', h2, hm, k2⟩
    simp only [go_sem, Nat.reduceEqDiff, reduceIte, ↓reduceIte, Nat.reduceAdd, List.replicate_succ, List.replicate_zero, List.set_cons_zero, List.set_cons_succ, List.length_cons, List.length_nil, Nat.reduceLT, Nat.lt_add_one, ne_eq, Int.reduceEq, not_false_eq_true, Option.map_some, Nat.reduceLeDiff, Nat.zero_lt_succ, List.map_cons, List.map_nil, List.nil_append, List.cons_append, List.append_nil, bytesOf, List.take_succ_cons, List.take_zero, List.drop_zero, and_self, List.append_assoc, List.length_append, Int.reduceLT, Int.reduceLE, Int.toNat_zero, Int.reduceToNat, Int.cast_ofNat_Int, Int.natCast_zero, Int.natCast_one, Int.reduceAdd, List.map_append, Option.bind_some]
    rw [i1]
    refine (specMark hw h2 hm.inv (Nat.le_trans hm.cnt hcnt) (n := ((i + 1 : Nat) : Int)) (by omega) (by rw [Int.toNat_natCast]; exact hnx) (by rw [Int.toNat_natCast]; exact .next i x hr hx hfall)).mono ?_
    rintro r' H3 ⟨seen3, todo3, h3, hm3, k3⟩
    have h3a := hm3.at'
    rw [Int.toNat_natCast] at h3a
    simp only [go_sem, Nat.reduceEqDiff, reduceIte, ↓reduceIte, Nat.reduceAdd, List.replicate_succ, List.replicate_zero, List.set_cons_zero, List.set_cons_succ, List.length_cons, List.length_nil, Nat.reduceLT, Nat.lt_add_one, ne_eq, Int.reduceEq, not_false_eq_true, Option.map_some, Nat.reduceLeDiff, Nat.zero_lt_succ, List.map_cons, List.map_nil, List.nil_append, List.cons_append, List.append_nil, bytesOf, List.take_succ_cons, List.take_zero, List.drop_zero, and_self, List.append_assoc, List.length_append, Int.reduceLT, Int.reduceLE, Int.toNat_zero, Int.reduceToNat, Int.cast_ofNat_Int, Int.natCast_zero, Int.natCast_one, Int.reduceAdd, List.map_append, Option.bind_some]
    exact ⟨seen3, named, todo3, g, h3, hm3.inv.done (fun y hy => by
      rw [hx] at hy; cases hy
      exact ⟨fun _ => hm3.mono _ hm.at', fun _ => h3a, fun o => by omega, fun o => by omega⟩), (hg.mono hm.mono).mono hm3.mono, Nat.le_trans hm3.cnt hm.cnt, k1.trans ((kk k2).trans (kk k3))⟩
  by_cases h3 : x.op = 3
  · obtain ⟨n0, n1⟩ := hw.lab i x hx h3
    have hnn : x.n.toNat < named.length := by rw [hv.ln]; exact n1
    have hnl : x.n < (named.length : Int) := by omega
    have hsl : x.n.toNat < c.starts.length := n1
    -- behind the mark of the block's start
    have tail : ∀ (seen1 : List Bool) (todo1 : List Nat) (H2 : List AO), WS H2 j ids vs idn vn lo seen1 named todo1 g → Inv c (fun k => k = i) seen1 named todo1 g → Gd c seen1 named g c.starts.length → (g = true → ∀ s : Int, c.starts[x.n.toNat]? = some s → seen1[s.toNat]? = some true) →
        cnt seen1 todo1 ≤ cnt seen todo → SK lo (fun k => k = j ∨ k = ids ∨ k = idn) H1 H2 →
        ACall Try.prog 80 [.ptr j 0, .p (.i .i64 ((i + 1 : Nat) : Int))] (H2.set idn (.rows 1 vn (boolR (named.set x.n.toNat true)))) (fun r H' => Looked c j ids vs idn vn lo H seen todo H') := by
      intro seen1 todo1 H2 h2 hv2 hg2 hgs hc2 k2
      refine (specMark hw (h2.named x.n.toNat) (hv2.named hr hx h3) (Nat.le_trans hc2 hcnt) (n := ((i + 1 : Nat) : Int)) (by omega) (by rw [Int.toNat_natCast]; exact hnx) (by rw [Int.toNat_natCast]; exact .next i x hr hx hfall)).mono ?_
      rintro r' H3 ⟨seen3, todo3, h3', hm3, k3⟩
      have h3a := hm3.at'
      rw [Int.toNat_natCast] at h3a
      refine ⟨seen3, _, todo3, g, h3', hm3.inv.done (fun y hy => by
        rw [hx] at hy; cases hy
        exact ⟨fun o => by omega, fun _ => h3a, fun o => by omega, fun o => set_at hnn⟩), ?_, Nat.le_trans hm3.cnt hc2, k1.trans (k2.trans ((SK.set (.inr (.inr rfl))).trans (kk k3)))⟩
      intro q hq hnq hgt s hs
      rcases set_inv hnq with hnq | rfl
      · exact hm3.mono _ (hg2 q hq hnq hgt s hs)
      · exact hm3.mono _ (hgs hgt s hs)
    obtain ⟨t, e1, e2⟩ := h1.hj
    simp only [go_sem, Nat.reduceEqDiff, reduceIte, ↓reduceIte, Nat.reduceAdd, List.replicate_succ, List.replicate_zero, List.set_cons_zero, List.set_cons_succ, List.length_cons, List.length_nil, Nat.reduceLT, Nat.lt_add_one, ne_eq, Int.reduceEq, not_false_eq_true, Option.map_some, Nat.reduceLeDiff, Nat.zero_lt_succ, List.map_cons, List.map_nil, List.nil_append, List.cons_append, List.append_nil, bytesOf, List.take_succ_cons, List.take_zero, List.drop_zero, and_self, List.append_assoc, List.length_append, Int.reduceLT, Int.reduceLE, Int.toNat_zero, Int.reduceToNat, Int.cast_ofNat_Int, Int.natCast_zero, Int.natCast_one, Int.reduceAdd, List.map_append, Option.bind_some, h3]
    refine drw_same ?_
    cases g with
    | false =>
      simp only [go_sem, Nat.reduceEqDiff, reduceIte, ↓reduceIte, Nat.reduceAdd, List.replicate_succ, List.replicate_zero, List.set_cons_zero, List.set_cons_succ, List.length_cons, List.length_nil, Nat.reduceLT, Nat.lt_add_one, ne_eq, Int.reduceEq, not_false_eq_true, Option.map_some, Nat.reduceLeDiff, Nat.zero_lt_succ, List.map_cons, List.map_nil, List.nil_append, List.cons_append, List.append_nil, bytesOf, List.take_succ_cons, List.take_zero, List.drop_zero, and_self, List.append_assoc, List.length_append, Int.reduceLT, Int.reduceLE, Int.toNat_zero, Int.reduceToNat, Int.cast_ofNat_Int, Int.natCast_zero, Int.natCast_one, Int.reduceAdd, List.map_append, Option.bind_some, e1]
      refine drw_same ?_
      simp only [go_sem, Nat.reduceEqDiff, reduceIte, ↓reduceIte, Nat.reduceAdd, List.replicate_succ, List.replicate_zero, List.set_cons_zero, List.set_cons_succ, List.length_cons, List.length_nil, Nat.reduceLT, Nat.lt_add_one, ne_eq, Int.reduceEq, not_false_eq_true, Option.map_some, Nat.reduceLeDiff, Nat.zero_lt_succ, List.map_cons, List.map_nil, List.nil_append, List.cons_append, List.append_nil, bytesOf, List.take_succ_cons, List.take_zero, List.drop_zero, and_self, List.append_assoc, List.length_append, Int.reduceLT, Int.reduceLE, Int.toNat_zero, Int.reduceToNat, Int.cast_ofNat_Int, Int.natCast_zero, Int.natCast_one, Int.reduceAdd, List.map_append, Option.bind_some, e1, b1, h1.hn]
      refine ⟨n0, hnl, ?_⟩
      rw [stoR_at (boolR_at hnn) rfl, boolR_set]
      simp only [go_sem, Nat.reduceEqDiff, reduceIte, ↓reduceIte, Nat.reduceAdd, List.replicate_succ, List.replicate_zero, List.set_cons_zero, List.set_cons_succ, List.length_cons, List.length_nil, Nat.reduceLT, Nat.lt_add_one, ne_eq, Int.reduceEq, not_false_eq_true, Option.map_some, Nat.reduceLeDiff, Nat.zero_lt_succ, List.map_cons, List.map_nil, List.nil_append, List.cons_append, List.append_nil, bytesOf, List.take_succ_cons, List.take_zero, List.drop_zero, and_self, List.append_assoc, List.length_append, Int.reduceLT, Int.reduceLE, Int.toNat_zero, Int.reduceToNat, Int.cast_ofNat_Int, Int.natCast_zero, Int.natCast_one, Int.reduceAdd, List.map_append, Option.bind_some]
      rw [i1]
      exact tail seen todo H1 h1 hv hg (fun h => by cases h) (Nat.le_refl _) (SK.refl _ _ _)
    | true =>
      simp only [go_sem, Nat.reduceEqDiff, reduceIte, ↓reduceIte, Nat.reduceAdd, List.replicate_succ, List.replicate_zero, List.set_cons_zero, List.set_cons_succ, List.length_cons, List.length_nil, Nat.reduceLT, Nat.lt_add_one, ne_eq, Int.reduceEq, not_false_eq_true, Option.map_some, Nat.reduceLeDiff, Nat.zero_lt_succ, List.map_cons, List.map_nil, List.nil_append, List.cons_append, List.append_nil, bytesOf, List.take_succ_cons, List.take_zero, List.drop_zero, and_self, List.append_assoc, List.length_append, Int.reduceLT, Int.reduceLE, Int.toNat_zero, Int.reduceToNat, Int.cast_ofNat_Int, Int.natCast_zero, Int.natCast_one, Int.reduceAdd, List.map_append, Option.bind_some, e1, b1, h1.hn, boolR_at hnn]
      refine ⟨n0, hnl, ?_⟩
      refine condK_split _ (fun hb => ?_) (fun hb => ?_)
      · simp only [go_sem, Nat.reduceEqDiff, reduceIte, ↓reduceIte, Nat.reduceAdd, List.replicate_succ, List.replicate_zero, List.set_cons_zero, List.set_cons_succ, List.length_cons, List.length_nil, Nat.reduceLT, Nat.lt_add_one, ne_eq, Int.reduceEq, not_false_eq_true, Option.map_some, Nat.reduceLeDiff, Nat.zero_lt_succ, List.map_cons, List.map_nil, List.nil_append, List.cons_append, List.append_nil, bytesOf, List.take_succ_cons, List.take_zero, List.drop_zero, and_self, List.append_assoc, List.length_append, Int.reduceLT, Int.reduceLE, Int.toNat_zero, Int.reduceToNat, Int.cast_ofNat_Int, Int.natCast_zero, Int.natCast_one, Int.reduceAdd, List.map_append, Option.bind_some, b0, b1, ints_at _ hsl]
        refine ⟨n0, ?_⟩
        obtain ⟨s0, s1⟩ := hw.start _ _ (List.getElem?_eq_getElem hsl)
        obtain ⟨i', y, q1, q2, q3⟩ := hv.sg rfl
        refine (specMark hw h1 hv hcnt s0 s1 (.go i' y i x _ q1 q2 q3 hr hx h3 (List.getElem?_eq_getElem hsl))).mono ?_
        rintro r H2 ⟨seen2, todo2, h2, hm2, k2⟩
        obtain ⟨t2, e3, e4⟩ := h2.hj
        have bb1 := k2.1 _ _ b1 (by omega)
        simp only [go_sem, Nat.reduceEqDiff, reduceIte, ↓reduceIte, Nat.reduceAdd, List.replicate_succ, List.replicate_zero, List.set_cons_zero, List.set_cons_succ, List.length_cons, List.length_nil, Nat.reduceLT, Nat.lt_add_one, ne_eq, Int.reduceEq, not_false_eq_true, Option.map_some, Nat.reduceLeDiff, Nat.zero_lt_succ, List.map_cons, List.map_nil, List.nil_append, List.cons_append, List.append_nil, bytesOf, List.take_succ_cons, List.take_zero, List.drop_zero, and_self, List.append_assoc, List.length_append, Int.reduceLT, Int.reduceLE, Int.toNat_zero, Int.reduceToNat, Int.cast_ofNat_Int, Int.natCast_zero, Int.natCast_one, Int.reduceAdd, List.map_append, Option.bind_some]
        refine drw_same ?_
        simp only [go_sem, Nat.reduceEqDiff, reduceIte, ↓reduceIte, Nat.reduceAdd, List.replicate_succ, List.replicate_zero, List.set_cons_zero, List.set_cons_succ, List.length_cons, List.length_nil, Nat.reduceLT, Nat.lt_add_one, ne_eq, Int.reduceEq, not_false_eq_true, Option.map_some, Nat.reduceLeDiff, Nat.zero_lt_succ, List.map_cons, List.map_nil, List.nil_append, List.cons_append, List.append_nil, bytesOf, List.take_succ_cons, List.take_zero, List.drop_zero, and_self, List.append_assoc, List.length_append, Int.reduceLT, Int.reduceLE, Int.toNat_zero, Int.reduceToNat, Int.cast_ofNat_Int, Int.natCast_zero, Int.natCast_one, Int.reduceAdd, List.map_append, Option.bind_some, e3, bb1, h2.hn]
        refine ⟨n0, hnl, ?_⟩
        rw [stoR_at (boolR_at hnn) rfl, boolR_set]
        simp only [go_sem, Nat.reduceEqDiff, reduceIte, ↓reduceIte, Nat.reduceAdd, List.replicate_succ, List.replicate_zero, List.set_cons_zero, List.set_cons_succ, List.length_cons, List.length_nil, Nat.reduceLT, Nat.lt_add_one, ne_eq, Int.reduceEq, not_false_eq_true, Option.map_some, Nat.reduceLeDiff, Nat.zero_lt_succ, List.map_cons, List.map_nil, List.nil_append, List.cons_append, List.append_nil, bytesOf, List.take_succ_cons, List.take_zero, List.drop_zero, and_self, List.append_assoc, List.length_append, Int.reduceLT, Int.reduceLE, Int.toNat_zero, Int.reduceToNat, Int.cast_ofNat_Int, Int.natCast_zero, Int.natCast_one, Int.reduceAdd, List.map_append, Option.bind_some]
        rw [i1]
        exact tail seen2 todo2 H2 h2 hm2.inv (hg.mono hm2.mono) (fun _ s hs => by rw [List.getElem?_eq_getElem hsl] at hs; cases hs; exact hm2.at') hm2.cnt (kk k2)
      · simp only [go_sem, Nat.reduceEqDiff, reduceIte, ↓reduceIte, Nat.reduceAdd, List.replicate_succ, List.replicate_zero, List.set_cons_zero, List.set_cons_succ, List.length_cons, List.length_nil, Nat.reduceLT, Nat.lt_add_one, ne_eq, Int.reduceEq, not_false_eq_true, Option.map_some, Nat.reduceLeDiff, Nat.zero_lt_succ, List.map_cons, List.map_nil, List.nil_append, List.cons_append, List.append_nil, bytesOf, List.take_succ_cons, List.take_zero, List.drop_zero, and_self, List.append_assoc, List.length_append, Int.reduceLT, Int.reduceLE, Int.toNat_zero, Int.reduceToNat, Int.cast_ofNat_Int, Int.natCast_zero, Int.natCast_one, Int.reduceAdd, List.map_append, Option.bind_some]
        refine drw_same ?_
        simp only [go_sem, Nat.reduceEqDiff, reduceIte, ↓reduceIte, Nat.reduceAdd, List.replicate_succ, List.replicate_zero, List.set_cons_zero, List.set_cons_succ, List.length_cons, List.length_nil, Nat.reduceLT, Nat.lt_add_one, ne_eq, Int.reduceEq, not_false_eq_true, Option.map_some, Nat.reduceLeDiff, Nat.zero_lt_succ, List.map_cons, List.map_nil, List.nil_append, List.cons_append, List.append_nil, bytesOf, List.take_succ_cons, List.take_zero, List.drop_zero, and_self, List.append_assoc, List.length_append, Int.reduceLT, Int.reduceLE, Int.toNat_zero, Int.reduceToNat, Int.cast_ofNat_Int, Int.natCast_zero, Int.natCast_one, Int.reduceAdd, List.map_append, Option.bind_some, e1, b1, h1.hn]
        refine ⟨n0, hnl, ?_⟩
        rw [stoR_at (boolR_at hnn) rfl, boolR_set]
        simp only [go_sem, Nat.reduceEqDiff, reduceIte, ↓reduceIte, Nat.reduceAdd, List.replicate_succ, List.replicate_zero, List.set_cons_zero, List.set_cons_succ, List.length_cons, List.length_nil, Nat.reduceLT, Nat.lt_add_one, ne_eq, Int.reduceEq, not_false_eq_true, Option.map_some, Nat.reduceLeDiff, Nat.zero_lt_succ, List.map_cons, List.map_nil, List.nil_append, List.cons_append, List.append_nil, bytesOf, List.take_succ_cons, List.take_zero, List.drop_zero, and_self, List.append_assoc, List.length_append, Int.reduceLT, Int.reduceLE, Int.toNat_zero, Int.reduceToNat, Int.cast_ofNat_Int, Int.natCast_zero, Int.natCast_one, Int.reduceAdd, List.map_append, Option.bind_some]
        rw [i1]
        have hnt : named[x.n.toNat] = true := by simpa using hb
        exact tail seen todo H1 h1 hv hg (fun _ s hs => hg _ n1 (by rw [List.getElem?_eq_getElem hnn, hnt]) rfl s hs) (Nat.le_refl _) (SK.refl _ _ _)
  · simp only [go_sem, Nat.reduceEqDiff, reduceIte, ↓reduceIte, Nat.reduceAdd, List.replicate_succ, List.replicate_zero, List.set_cons_zero, List.set_cons_succ, List.length_cons, List.length_nil, Nat.reduceLT, Nat.lt_add_one, ne_eq, Int.reduceEq, not_false_eq_true, Option.map_some, Nat.reduceLeDiff, Nat.zero_lt_succ, List.map_cons, List.map_nil, List.nil_append, List.cons_append, List.append_nil, bytesOf, List.take_succ_cons, List.take_zero, List.drop_zero, and_self, List.append_assoc, List.length_append, Int.reduceLT, Int.reduceLE, Int.toNat_zero, Int.reduceToNat, Int.cast_ofNat_Int, Int.natCast_zero, Int.natCast_one, Int.reduceAdd, List.map_append, Option.bind_some, h14, h15, h12, h13, h11, h3]
    rw [i1]
    refine (specMark hw h1 hv hcnt (n := ((i + 1 : Nat) : Int)) (by omega) (by rw [Int.toNat_natCast]; exact hnx) (by rw [Int.toNat_natCast]; exact .next i x hr hx hfall)).mono ?_
    rintro r' H3 ⟨seen3, todo3, h3', hm3, k3⟩
    have h3a := hm3.at'
    rw [Int.toNat_natCast] at h3a
    simp only [go_sem, Nat.reduceEqDiff, reduceIte, ↓reduceIte, Nat.reduceAdd, List.replicate_succ, List.replicate_zero, List.set_cons_zero, List.set_cons_succ, List.length_cons, List.length_nil, Nat.reduceLT, Nat.lt_add_one, ne_eq, Int.reduceEq, not_false_eq_true, Option.map_some, Nat.reduceLeDiff, Nat.zero_lt_succ, List.map_cons, List.map_nil, List.nil_append, List.cons_append, List.append_nil, bytesOf, List.take_succ_cons, List.take_zero, List.drop_zero, and_self, List.append_assoc, List.length_append, Int.reduceLT, Int.reduceLE, Int.toNat_zero, Int.reduceToNat, Int.cast_ofNat_Int, Int.natCast_zero, Int.natCast_one, Int.reduceAdd, List.map_append, Option.bind_some]
    exact ⟨seen3, named, todo3, g, h3', hm3.inv.done (fun y hy => by
      rw [hx] at hy; cases hy
      exact ⟨fun o => by omega, fun _ => h3a, fun o => by omega, fun o => by omega⟩), hg.mono hm3.mono, hm3.cnt, k1.trans (kk k3)⟩
end Go.Proofs.Ytmbggdfceecojaa.Cd

/- What is reached in a code: by the reference. -/
set_option linter.all false
namespace Go.Proofs.Ytmbggdfceecojaa.Cd
open Go.AM Mc Ho

theorem natI_app (l : List Nat) (a : Nat) : natI (l ++ [a]) = natI l ++ [(a : Int)] := by simp [natI]
theorem seen_reach {c : CodeD} {seen named : List Bool} {g : Bool} (hc : codeOk c = true) (hw : WF c) (hv : Inv c (fun _ => False) seen named [] g) (hg : Gd c seen named g c.starts.length) : seen = reachD c :=
  reach_eq hc hv.ls (fun i => ⟨hv.ss i, hv.seen_all hw hg i⟩)

theorem inv0 {c : CodeD} (hw : WF c) : Inv c (fun _ => False) ((List.replicate c.ins.length false).set 0 true) (List.replicate c.starts.length false) [0] false where
  ls := by simp
  ln := by simp
  z := set_at (by simp; exact hw.pos)
  ss := fun i hi => by
    rcases set_inv hi with h | rfl
    · simp [List.getElem?_replicate] at h
    · exact .zero
  sn := fun k hk => by simp [List.getElem?_replicate] at hk
  sg := fun h => by cases h
  st := fun i hi => by simp at hi; subst hi; exact set_at (by simp; exact hw.pos)
  cc := fun i hi hm _ => by
    rcases set_inv hi with h | rfl
    · simp [List.getElem?_replicate] at h
    · simp at hm
theorem gd0 {c : CodeD} (seen named : List Bool) (n : Nat) : Gd c seen named false n := fun k _ _ h => by cases h
theorem cnt0 (c : CodeD) : cnt (List.replicate c.ins.length false) [] = 2 * c.ins.length := by simp [cnt]

set_option maxHeartbeats 1000000 in
theorem specReached0 (c : CodeD) (hok : okCode c) : ACall Try.prog 28 [.st (c.cells.map .p)] [] (fun r H' => OwnR H' r 1 (boolR (reachD c))) := by
  refine call28 (by simp) ?_
  simp only [go_sem, Nat.reduceEqDiff, reduceIte, ↓reduceIte, Nat.reduceAdd, List.replicate_succ, List.replicate_zero, List.set_cons_zero, List.set_cons_succ, List.length_cons, List.length_nil, Nat.reduceLT, Nat.lt_add_one, ne_eq, Int.reduceEq, not_false_eq_true, Option.map_some, Nat.reduceLeDiff, Nat.zero_lt_succ, List.map_cons, List.map_nil, List.nil_append, List.cons_append, List.append_nil, bytesOf, List.take_succ_cons, List.take_zero, List.drop_zero, and_self, List.append_assoc, List.length_append, Int.reduceLT, Int.reduceLE, Int.toNat_zero, Int.reduceToNat, Int.cast_ofNat_Int, Int.natCast_zero, Int.natCast_one, Int.reduceAdd, List.map_append, Option.bind_some, mc28, mr28, CodeD.cells]
  rw [code_eta]
  refine (acall_lend (specCodeOk c hok) (fun r H' h => by subst h; exact grnd_b _) (lentAll_cons (code_lent c) (lentAll_nil _))).mono ?_
  rintro r H' ⟨rfl, _, rfl⟩
  simp only [go_sem, Nat.reduceEqDiff, reduceIte, ↓reduceIte, Nat.reduceAdd, List.replicate_succ, List.replicate_zero, List.set_cons_zero, List.set_cons_succ, List.length_cons, List.length_nil, Nat.reduceLT, Nat.lt_add_one, ne_eq, Int.reduceEq, not_false_eq_true, Option.map_some, Nat.reduceLeDiff, Nat.zero_lt_succ, List.map_cons, List.map_nil, List.nil_append, List.cons_append, List.append_nil, bytesOf, List.take_succ_cons, List.take_zero, List.drop_zero, and_self, List.append_assoc, List.length_append, Int.reduceLT, Int.reduceLE, Int.toNat_zero, Int.reduceToNat, Int.cast_ofNat_Int, Int.natCast_zero, Int.natCast_one, Int.reduceAdd, List.map_append, Option.bind_some]
  refine condK_split _ (fun hco => ?_) (fun hco => ?_)
  · simp only [go_sem, Nat.reduceEqDiff, reduceIte, ↓reduceIte, Nat.reduceAdd, List.replicate_succ, List.replicate_zero, List.set_cons_zero, List.set_cons_succ, List.length_cons, List.length_nil, Nat.reduceLT, Nat.lt_add_one, ne_eq, Int.reduceEq, not_false_eq_true, Option.map_some, Nat.reduceLeDiff, Nat.zero_lt_succ, List.map_cons, List.map_nil, List.nil_append, List.cons_append, List.append_nil, bytesOf, List.take_succ_cons, List.take_zero, List.drop_zero, and_self, List.append_assoc, List.length_append, Int.reduceLT, Int.reduceLE, Int.toNat_zero, Int.reduceToNat, Int.cast_ofNat_Int, Int.natCast_zero, Int.natCast_one, Int.reduceAdd, List.map_append, Option.bind_some]
    have : codeOk c = false := by simpa using hco
    have hr : reachD c = [] := by unfold reachD; rw [if_neg (by simp [this])]
    rw [hr]
    exact .inr ⟨1, 0, rfl, rfl⟩
  have hco' : codeOk c = true := by simpa using hco
  have hw := codeOk_wf hco'
  have hle := hw.le
  have hles := hw.les
  simp only [go_sem, Nat.reduceEqDiff, reduceIte, ↓reduceIte, Nat.reduceAdd, List.replicate_succ, List.replicate_zero, List.set_cons_zero, List.set_cons_succ, List.length_cons, List.length_nil, Nat.reduceLT, Nat.lt_add_one, ne_eq, Int.reduceEq, not_false_eq_true, Option.map_some, Nat.reduceLeDiff, Nat.zero_lt_succ, List.map_cons, List.map_nil, List.nil_append, List.cons_append, List.append_nil, bytesOf, List.take_succ_cons, List.take_zero, List.drop_zero, and_self, List.append_assoc, List.length_append, Int.reduceLT, Int.reduceLE, Int.toNat_zero, Int.reduceToNat, Int.cast_ofNat_Int, Int.natCast_zero, Int.natCast_one, Int.reduceAdd, List.map_append, Option.bind_some]
  refine drw_same ?_
  simp only [go_sem, Nat.reduceEqDiff, reduceIte, ↓reduceIte, Nat.reduceAdd, List.replicate_succ, List.replicate_zero, List.set_cons_zero, List.set_cons_succ, List.length_cons, List.length_nil, Nat.reduceLT, Nat.lt_add_one, ne_eq, Int.reduceEq, not_false_eq_true, Option.map_some, Nat.reduceLeDiff, Nat.zero_lt_succ, List.map_cons, List.map_nil, List.nil_append, List.cons_append, List.append_nil, bytesOf, List.take_succ_cons, List.take_zero, List.drop_zero, and_self, List.append_assoc, List.length_append, Int.reduceLT, Int.reduceLE, Int.toNat_zero, Int.reduceToNat, Int.cast_ofNat_Int, Int.natCast_zero, Int.natCast_one, Int.reduceAdd, List.map_append, Option.bind_some, CodeD.cells, inss_len, ints_len]
  refine ⟨by omega, by omega, by omega, ?_⟩
  refine ⟨by omega, by omega, by omega, ?_⟩
  have h0 : WS [.var [.p (.l (inss c.ins)), .p (.l (ints c.starts))], .rows 1 0 (List.replicate c.ins.length [.p (.b false)]), .rows 1 0 (List.replicate c.starts.length [.p (.b false)]), .var [.gs 1 0 0 c.ins.length, .p .nl, .gs 2 0 0 c.starts.length, .p (.b false)]]
      3 1 0 2 0 4 (List.replicate c.ins.length false) (List.replicate c.starts.length false) [] false :=
    ⟨⟨.p .nl, by simp, .inl ⟨rfl, rfl⟩⟩, by simp [boolR], by simp [boolR], by omega, by omega, by omega, by omega, by simp⟩
  have hv0 : [AO.var [.p (.l (inss c.ins)), .p (.l (ints c.starts))], .rows 1 0 (List.replicate c.ins.length [.p (.b false)]), .rows 1 0 (List.replicate c.starts.length [.p (.b false)]), .var [.gs 1 0 0 c.ins.length, .p .nl, .gs 2 0 0 c.starts.length, .p (.b false)]][0]? = some (.var [.p (.l (inss c.ins)), .p (.l (ints c.starts))]) := rfl
  generalize [AO.var [.p (.l (inss c.ins)), .p (.l (ints c.starts))], .rows 1 0 (List.replicate c.ins.length [.p (.b false)]), .rows 1 0 (List.replicate c.starts.length [.p (.b false)]), .var [.gs 1 0 0 c.ins.length, .p .nl, .gs 2 0 0 c.starts.length, .p (.b false)]] = H0 at h0 hv0 ⊢
  refine (specReach h0 (i := 0) (by simp; exact hw.pos) (by simp)).mono ?_
  rintro r H1 ⟨h1, k1⟩
  have hnf : ¬ (List.replicate c.ins.length false)[0]? = some true := by simp [List.getElem?_replicate]
  rw [if_neg hnf] at h1
  have hv1 := k1.1 0 _ hv0 (by omega)
  have hc0 : cnt ((List.replicate c.ins.length false).set 0 true) [0] ≤ 80000 := by
    have h2 := count_set (l := List.replicate c.ins.length false) (i := 0) (by simp [hw.pos])
    simp only [List.count_replicate_self] at h2
    unfold cnt; simp only [List.length_cons, List.length_nil]; omega
  clear k1 h0 hv0
  simp only [go_sem, Nat.reduceEqDiff, reduceIte, ↓reduceIte, Nat.reduceAdd, List.replicate_succ, List.replicate_zero, List.set_cons_zero, List.set_cons_succ, List.length_cons, List.length_nil, Nat.reduceLT, Nat.lt_add_one, ne_eq, Int.reduceEq, not_false_eq_true, Option.map_some, Nat.reduceLeDiff, Nat.zero_lt_succ, List.map_cons, List.map_nil, List.nil_append, List.cons_append, List.append_nil, bytesOf, List.take_succ_cons, List.take_zero, List.drop_zero, and_self, List.append_assoc, List.length_append, Int.reduceLT, Int.reduceLE, Int.toNat_zero, Int.reduceToNat, Int.cast_ofNat_Int, Int.natCast_zero, Int.natCast_one, Int.reduceAdd, List.map_append, Option.bind_some]
  refine ⟨List Bool × List Bool × List Nat × Bool × List AO, [0, 1, 2, 3], fun y st => WS y.2.2.2.2 3 1 0 2 0 4 y.1 y.2.1 y.2.2.1 y.2.2.2.1 ∧ Inv c (fun _ => False) y.1 y.2.1 y.2.2.1 y.2.2.2.1 ∧ Gd c y.1 y.2.1 y.2.2.2.1 c.starts.length ∧ cnt y.1 y.2.2.1 ≤ 80000 ∧ y.2.2.2.2[0]? = some (.var [.p (.l (inss c.ins)), .p (.l (ints c.starts))]) ∧
    st = ⟨[(0, .st [.p (.l (inss c.ins)), .p (.l (ints c.starts))]), (1, .ptr 0 0), (2, .p .nl), (3, .ptr 3 0)], [], y.2.2.2.2⟩, fun y => cnt y.1 y.2.2.1, ⟨⟨(List.replicate c.ins.length false).set 0 true, List.replicate c.starts.length false, [0], false, H1⟩, ?_⟩, ?_⟩
  · simp only [go_sem, Nat.reduceEqDiff, reduceIte, ↓reduceIte, Nat.reduceAdd, List.replicate_succ, List.replicate_zero, List.set_cons_zero, List.set_cons_succ, List.length_cons, List.length_nil, Nat.reduceLT, Nat.lt_add_one, ne_eq, Int.reduceEq, not_false_eq_true, Option.map_some, Nat.reduceLeDiff, Nat.zero_lt_succ, List.map_cons, List.map_nil, List.nil_append, List.cons_append, List.append_nil, bytesOf, List.take_succ_cons, List.take_zero, List.drop_zero, and_self, List.append_assoc, List.length_append, Int.reduceLT, Int.reduceLE, Int.toNat_zero, Int.reduceToNat, Int.cast_ofNat_Int, Int.natCast_zero, Int.natCast_one, Int.reduceAdd, List.map_append, Option.bind_some]
    exact ⟨h1, inv0 hw, gd0 _ _ _, hc0, hv1⟩
  clear h1 hv1 hc0 hnf
  rintro ⟨seen, named, todo, g, H⟩ st ⟨h, hv, hg, hc, hv0, rfl⟩
  simp only at h hv hg hc hv0
  obtain ⟨t, e1, e2⟩ := h.hj
  have fin : todo = [] → OwnR H (.gs 1 0 0 seen.length) 1 (boolR (reachD c)) := by
    intro ht
    subst ht
    rw [← seen_reach hco' hw hv hg]
    exact .inr ⟨1, 0, by rw [boolR_len], h.hs⟩
  rcases e2 with ⟨rfl, hz⟩ | ⟨id, ver, rs, hlo, rfl, hid, htk, hrl⟩
  · have ht : todo = [] := by cases todo with
      | nil => rfl
      | cons a l => simp [natI] at hz
    simp only [go_sem, Nat.reduceEqDiff, reduceIte, ↓reduceIte, Nat.reduceAdd, List.replicate_succ, List.replicate_zero, List.set_cons_zero, List.set_cons_succ, List.length_cons, List.length_nil, Nat.reduceLT, Nat.lt_add_one, ne_eq, Int.reduceEq, not_false_eq_true, Option.map_some, Nat.reduceLeDiff, Nat.zero_lt_succ, List.map_cons, List.map_nil, List.nil_append, List.cons_append, List.append_nil, bytesOf, List.take_succ_cons, List.take_zero, List.drop_zero, and_self, List.append_assoc, List.length_append, Int.reduceLT, Int.reduceLE, Int.toNat_zero, Int.reduceToNat, Int.cast_ofNat_Int, Int.natCast_zero, Int.natCast_one, Int.reduceAdd, List.map_append, Option.bind_some, e1, Int.lt_irrefl, decide_false]
    exact fin ht
  · simp only [go_sem, Nat.reduceEqDiff, reduceIte, ↓reduceIte, Nat.reduceAdd, List.replicate_succ, List.replicate_zero, List.set_cons_zero, List.set_cons_succ, List.length_cons, List.length_nil, Nat.reduceLT, Nat.lt_add_one, ne_eq, Int.reduceEq, not_false_eq_true, Option.map_some, Nat.reduceLeDiff, Nat.zero_lt_succ, List.map_cons, List.map_nil, List.nil_append, List.cons_append, List.append_nil, bytesOf, List.take_succ_cons, List.take_zero, List.drop_zero, and_self, List.append_assoc, List.length_append, Int.reduceLT, Int.reduceLE, Int.toNat_zero, Int.reduceToNat, Int.cast_ofNat_Int, Int.natCast_zero, Int.natCast_one, Int.reduceAdd, List.map_append, Option.bind_some, e1, natI_len]
    intro _
    refine condK_split _ (fun hd => ?_) (fun hd => ?_)
    · have hpos : todo ≠ [] := by rintro rfl; simp at hd
      obtain ⟨todo', a, rfl⟩ : ∃ l a, todo = l ++ [a] := ⟨_, _, (List.dropLast_concat_getLast hpos).symm⟩
      have hsa := hv.st a (by simp)
      have hal : a < c.ins.length := by rw [← hv.ls]; exact (List.getElem?_eq_some_iff.1 hsa).1
      have htl : todo'.length < 80000 := by unfold cnt at hc; simp at hc; omega
      have hn1 : wr .i64 (((todo'.length + 1 : Nat) : Int) - 1) = (todo'.length : Int) := by rw [wr64 (by omega) (by omega)]; omega
      rw [natI_app] at htk hrl
      have hrow : rs[todo'.length]? = some [.p (.i .i64 a)] := by
        have : (rs.take (natI todo' ++ [(a : Int)]).length)[todo'.length]? = rs[todo'.length]? := by
          rw [List.getElem?_take, if_pos (by simp [natI])]
        rw [← this, htk]
        simp [intR, natI]
      simp only [go_sem, Nat.reduceEqDiff, reduceIte, ↓reduceIte, Nat.reduceAdd, List.replicate_succ, List.replicate_zero, List.set_cons_zero, List.set_cons_succ, List.length_cons, List.length_nil, Nat.reduceLT, Nat.lt_add_one, ne_eq, Int.reduceEq, not_false_eq_true, Option.map_some, Nat.reduceLeDiff, Nat.zero_lt_succ, List.map_cons, List.map_nil, List.nil_append, List.cons_append, List.append_nil, bytesOf, List.take_succ_cons, List.take_zero, List.drop_zero, and_self, List.append_assoc, List.length_append, Int.reduceLT, Int.reduceLE, Int.toNat_zero, Int.reduceToNat, Int.cast_ofNat_Int, Int.natCast_zero, Int.natCast_one, Int.reduceAdd, List.map_append, Option.bind_some]
      refine drw_same ?_
      simp only [go_sem, Nat.reduceEqDiff, reduceIte, ↓reduceIte, Nat.reduceAdd, List.replicate_succ, List.replicate_zero, List.set_cons_zero, List.set_cons_succ, List.length_cons, List.length_nil, Nat.reduceLT, Nat.lt_add_one, ne_eq, Int.reduceEq, not_false_eq_true, Option.map_some, Nat.reduceLeDiff, Nat.zero_lt_succ, List.map_cons, List.map_nil, List.nil_append, List.cons_append, List.append_nil, bytesOf, List.take_succ_cons, List.take_zero, List.drop_zero, and_self, List.append_assoc, List.length_append, Int.reduceLT, Int.reduceLE, Int.toNat_zero, Int.reduceToNat, Int.cast_ofNat_Int, Int.natCast_zero, Int.natCast_one, Int.reduceAdd, List.map_append, Option.bind_some, e1, List.length_append, natI_len, hn1, hid, hrow]
      refine ⟨by omega, ?_⟩
      refine drw_same ?_
      simp only [go_sem, Nat.reduceEqDiff, reduceIte, ↓reduceIte, Nat.reduceAdd, List.replicate_succ, List.replicate_zero, List.set_cons_zero, List.set_cons_succ, List.length_cons, List.length_nil, Nat.reduceLT, Nat.lt_add_one, ne_eq, Int.reduceEq, not_false_eq_true, Option.map_some, Nat.reduceLeDiff, Nat.zero_lt_succ, List.map_cons, List.map_nil, List.nil_append, List.cons_append, List.append_nil, bytesOf, List.take_succ_cons, List.take_zero, List.drop_zero, and_self, List.append_assoc, List.length_append, Int.reduceLT, Int.reduceLE, Int.toNat_zero, Int.reduceToNat, Int.cast_ofNat_Int, Int.natCast_zero, Int.natCast_one, Int.reduceAdd, List.map_append, Option.bind_some, e1, List.length_append, natI_len, hn1, hid]
      refine ⟨by omega, ?_⟩
      have h2 : WS (H.set 3 (.var [.gs 1 0 0 seen.length, .gs id ver 0 todo'.length, .gs 2 0 0 named.length, .p (.b g)])) 3 1 0 2 0 4 seen named todo' g := by
        refine ⟨⟨_, set_get e1, .inr ⟨id, ver, rs, hlo, by rw [natI_len], get_set hid (by omega), ?_, ?_⟩⟩, get_set h.hs (by omega), get_set h.hn (by omega), h.ne, h.l1, h.l2, h.l3, by have := h.l4; simp; exact this⟩
        · have := congrArg (List.take (natI todo').length) htk
          rw [List.take_take] at this
          rw [show min (natI todo').length (natI todo' ++ [(a : Int)]).length = (natI todo').length by simp] at this
          rw [this]
          simp [intR]
        · simp at hrl ⊢; omega
      have hv2 := get_set (i := 3) (o' := .var [.gs 1 0 0 seen.length, .gs id ver 0 todo'.length, .gs 2 0 0 named.length, .p (.b g)]) hv0 (by omega)
      generalize H.set 3 (.var [.gs 1 0 0 seen.length, .gs id ver 0 todo'.length, .gs 2 0 0 named.length, .p (.b g)]) = H2 at h2 hv2 ⊢
      have hcc : cnt seen todo' + 1 = cnt seen (todo' ++ [a]) := by unfold cnt; simp; omega
      simp only [go_sem, Nat.reduceEqDiff, reduceIte, ↓reduceIte, Nat.reduceAdd, List.replicate_succ, List.replicate_zero, List.set_cons_zero, List.set_cons_succ, List.length_cons, List.length_nil, Nat.reduceLT, Nat.lt_add_one, ne_eq, Int.reduceEq, not_false_eq_true, Option.map_some, Nat.reduceLeDiff, Nat.zero_lt_succ, List.map_cons, List.map_nil, List.nil_append, List.cons_append, List.append_nil, bytesOf, List.take_succ_cons, List.take_zero, List.drop_zero, and_self, List.append_assoc, List.length_append, Int.reduceLT, Int.reduceLE, Int.toNat_zero, Int.reduceToNat, Int.cast_ofNat_Int, Int.natCast_zero, Int.natCast_one, Int.reduceAdd, List.map_append, Option.bind_some, hv2]
      rw [code_eta]
      refine (specLook hok hw h2 hv.pop hg (by omega) hal (hv.ss a hsa)).mono ?_
      rintro r2 H3 ⟨seen3, named3, todo3, g3, h3, hv3, hg3, hc3, hk3⟩
      have hv4 := hk3.1 0 _ hv2 (by omega)
      simp only [go_sem, Nat.reduceEqDiff, reduceIte, ↓reduceIte, Nat.reduceAdd, List.replicate_succ, List.replicate_zero, List.set_cons_zero, List.set_cons_succ, List.length_cons, List.length_nil, Nat.reduceLT, Nat.lt_add_one, ne_eq, Int.reduceEq, not_false_eq_true, Option.map_some, Nat.reduceLeDiff, Nat.zero_lt_succ, List.map_cons, List.map_nil, List.nil_append, List.cons_append, List.append_nil, bytesOf, List.take_succ_cons, List.take_zero, List.drop_zero, and_self, List.append_assoc, List.length_append, Int.reduceLT, Int.reduceLE, Int.toNat_zero, Int.reduceToNat, Int.cast_ofNat_Int, Int.natCast_zero, Int.natCast_one, Int.reduceAdd, List.map_append, Option.bind_some, CodeD.cells]
      exact ⟨⟨seen3, named3, todo3, g3, H3⟩, ⟨h3, hv3, hg3, by simp only; omega, hv4, rfl⟩, by simp only; omega⟩
    · have ht : todo = [] := by
        cases todo with
        | nil => rfl
        | cons a l => simp at hd
      simp only [go_sem, Nat.reduceEqDiff, reduceIte, ↓reduceIte, Nat.reduceAdd, List.replicate_succ, List.replicate_zero, List.set_cons_zero, List.set_cons_succ, List.length_cons, List.length_nil, Nat.reduceLT, Nat.lt_add_one, ne_eq, Int.reduceEq, not_false_eq_true, Option.map_some, Nat.reduceLeDiff, Nat.zero_lt_succ, List.map_cons, List.map_nil, List.nil_append, List.cons_append, List.append_nil, bytesOf, List.take_succ_cons, List.take_zero, List.drop_zero, and_self, List.append_assoc, List.length_append, Int.reduceLT, Int.reduceLE, Int.toNat_zero, Int.reduceToNat, Int.cast_ofNat_Int, Int.natCast_zero, Int.natCast_one, Int.reduceAdd, List.map_append, Option.bind_some, e1]
      exact fin ht
end Go.Proofs.Ytmbggdfceecojaa.Cd

/- What is reached in a code: by the program: a mark, the starts. -/
set_option linter.all false
namespace Go.Proofs.Ytmbggdfceecojaa.Cd
open Go.AM Mc Ho

/-- the program's state -/
structure IS (c : CodeD) (H : List AO) (seen named : List Bool) (todo : List Nat) (g : Bool) : Prop where
  c0 : H[0]? = some (.var [.p (.l (inss c.ins)), .p (.l (ints c.starts))])
  s1 : H[1]? = some (.rows 1 0 (boolR seen))
  o2 : H[2]? = some (.var [.gs 1 0 0 seen.length])
  n3 : H[3]? = some (.rows 1 0 (boolR named))
  n4 : H[4]? = some (.var [.gs 3 0 0 named.length])
  g5 : H[5]? = some (.var [.p (.b g)])
  l6 : ∃ t, H[6]? = some (.var [t]) ∧ OwnP H t (natI todo) 8
  r7 : H[7]? = some (.var [.clo 82 [.ptr 2 0, .ptr 6 0]])
  ln : 8 ≤ H.length

theorem IS.ext {c : CodeD} {H : List AO} {seen named : List Bool} {todo : List Nat} {g : Bool} (h : IS c H seen named todo g) (A : List AO) : IS c (H ++ A) seen named todo g := by
  obtain ⟨t, h1, h2⟩ := h.l6
  exact ⟨get_ext h.c0 _, get_ext h.s1 _, get_ext h.o2 _, get_ext h.n3 _, get_ext h.n4 _, get_ext h.g5 _, ⟨t, get_ext h1 _, h2.keep (X := fun _ => False) (fun k sz ver rs hk _ => get_ext hk _)⟩, get_ext h.r7 _, by have := h.ln; simp; omega⟩

theorem implReach {c : CodeD} {H : List AO} {seen named : List Bool} {todo : List Nat} {g : Bool} (h : IS c H seen named todo g) {i : Nat} (hi : i < seen.length) (hl : todo.length ≤ 100000) :
    ACall Try.prog 82 [.p (.i .i64 i), .ptr 2 0, .ptr 6 0] H (fun r H' => IS c H' (seen.set i true) named (if seen[i]? = some true then todo else todo ++ [i]) g ∧ SK 8 (fun k => k = 6 ∨ k = 1) H H') := by
  obtain ⟨t, h1, h2⟩ := h.l6
  have hi64 : (i : Int) < (seen.length : Int) := by omega
  refine call82 (by simp) ?_
  simp only [go_sem, Nat.reduceEqDiff, reduceIte, ↓reduceIte, Nat.reduceAdd, List.replicate_succ, List.replicate_zero, List.set_cons_zero, List.set_cons_succ, List.length_cons, List.length_nil, Nat.reduceLT, Nat.lt_add_one, ne_eq, Int.reduceEq, not_false_eq_true, Option.map_some, Nat.reduceLeDiff, Nat.zero_lt_succ, List.map_cons, List.map_nil, List.nil_append, List.cons_append, List.append_nil, bytesOf, List.take_succ_cons, List.take_zero, List.drop_zero, and_self, List.append_assoc, List.length_append, Int.reduceLT, Int.reduceLE, Int.toNat_zero, Int.reduceToNat, Int.cast_ofNat_Int, Int.natCast_zero, Int.natCast_one, Int.reduceAdd, List.map_append, Option.bind_some, mc82, mr82, h.o2, h.s1, boolR_at hi]
  refine ⟨hi64, ?_⟩
  refine condK_split _ (fun hc => ?_) (fun hc => ?_)
  · have hf : seen[i] = false := by simpa using hc
    simp only [go_sem, Nat.reduceEqDiff, reduceIte, ↓reduceIte, Nat.reduceAdd, List.replicate_succ, List.replicate_zero, List.set_cons_zero, List.set_cons_succ, List.length_cons, List.length_nil, Nat.reduceLT, Nat.lt_add_one, ne_eq, Int.reduceEq, not_false_eq_true, Option.map_some, Nat.reduceLeDiff, Nat.zero_lt_succ, List.map_cons, List.map_nil, List.nil_append, List.cons_append, List.append_nil, bytesOf, List.take_succ_cons, List.take_zero, List.drop_zero, and_self, List.append_assoc, List.length_append, Int.reduceLT, Int.reduceLE, Int.toNat_zero, Int.reduceToNat, Int.cast_ofNat_Int, Int.natCast_zero, Int.natCast_one, Int.reduceAdd, List.map_append, Option.bind_some, h.o2, h.s1, boolR_at hi]
    refine ⟨hi64, ?_⟩
    rw [stoR_at (boolR_at hi) rfl, boolR_set]
    have k1 : SK 8 (fun k => k = 6 ∨ k = 1) H (H.set 1 (.rows 1 0 (boolR (seen.set i true)))) := SK.set (.inr rfl)
    have s1 : (H.set 1 (.rows 1 0 (boolR (seen.set i true))))[1]? = some (.rows 1 0 (boolR (seen.set i true))) := set_get h.s1
    have t1 : (H.set 1 (.rows 1 0 (boolR (seen.set i true))))[6]? = some (.var [t]) := get_set h1 (by omega)
    have o1 : OwnP (H.set 1 (.rows 1 0 (boolR (seen.set i true)))) t (natI todo) 8 := h2.keep (X := fun _ => False) (fun k sz ver rs hk hlo => get_set hk (by omega))
    have q0 : ∀ k, k < 8 → k ≠ 1 → (H.set 1 (.rows 1 0 (boolR (seen.set i true))))[k]? = H[k]? := fun k _ hk => List.getElem?_set_ne (fun e => hk e.symm)
    have hl2 : (H.set 1 (.rows 1 0 (boolR (seen.set i true)))).length = H.length := by simp
    have hln := h.ln
    generalize H.set 1 (.rows 1 0 (boolR (seen.set i true))) = H1 at k1 s1 t1 o1 q0 hl2 ⊢
    simp only [go_sem, Nat.reduceEqDiff, reduceIte, ↓reduceIte, Nat.reduceAdd, List.replicate_succ, List.replicate_zero, List.set_cons_zero, List.set_cons_succ, List.length_cons, List.length_nil, Nat.reduceLT, Nat.lt_add_one, ne_eq, Int.reduceEq, not_false_eq_true, Option.map_some, Nat.reduceLeDiff, Nat.zero_lt_succ, List.map_cons, List.map_nil, List.nil_append, List.cons_append, List.append_nil, bytesOf, List.take_succ_cons, List.take_zero, List.drop_zero, and_self, List.append_assoc, List.length_append, Int.reduceLT, Int.reduceLE, Int.toNat_zero, Int.reduceToNat, Int.cast_ofNat_Int, Int.natCast_zero, Int.natCast_one, Int.reduceAdd, List.map_append, Option.bind_some, t1]
    refine ⟨by simp, app_ownP (o1.keep (X := fun _ => False) (fun k sz ver rs hk _ => get_ext hk _)) (by simp; omega) _ (by rw [natI_len]; exact hl) fun a' H2 ho2 hk2 => ?_⟩
    have hone : AV.allOne a' = true ∧ AV.cells a' = [a'] := by
      rcases ho2 with ⟨rfl, _⟩ | ⟨id, ver, rs, _, rfl, _⟩
      · exact ⟨rfl, rfl⟩
      · exact ⟨rfl, rfl⟩
    have t2 : H2[6]? = some (.var [t]) := by rw [hk2.2.1 6 (by omega) (fun f => f)]; exact get_ext t1 _
    have q2 : ∀ (k : Nat) o, k < 8 → k ≠ 1 → k ≠ 6 → H[k]? = some o → (H2.set 6 (.var [a']))[k]? = some o := by
      intro k o hk h1' h6 hko
      rw [List.getElem?_set_ne (fun e => h6 e.symm), hk2.2.1 k hk (fun f => f), List.getElem?_append_left (by omega), q0 k hk h1']
      exact hko
    simp only [go_sem, Nat.reduceEqDiff, reduceIte, ↓reduceIte, Nat.reduceAdd, List.replicate_succ, List.replicate_zero, List.set_cons_zero, List.set_cons_succ, List.length_cons, List.length_nil, Nat.reduceLT, Nat.lt_add_one, ne_eq, Int.reduceEq, not_false_eq_true, Option.map_some, Nat.reduceLeDiff, Nat.zero_lt_succ, List.map_cons, List.map_nil, List.nil_append, List.cons_append, List.append_nil, bytesOf, List.take_succ_cons, List.take_zero, List.drop_zero, and_self, List.append_assoc, List.length_append, Int.reduceLT, Int.reduceLE, Int.toNat_zero, Int.reduceToNat, Int.cast_ofNat_Int, Int.natCast_zero, Int.natCast_one, Int.reduceAdd, List.map_append, Option.bind_some, t2, hone.1, hone.2]
    have hne : ¬ seen[i]? = some true := by rw [List.getElem?_eq_getElem hi, hf]; simp
    rw [if_neg hne]
    have l2 := hk2.2.2
    simp at l2
    refine ⟨⟨q2 0 _ (by omega) (by omega) (by omega) h.c0, ?_, by rw [List.length_set]; exact q2 2 _ (by omega) (by omega) (by omega) h.o2, q2 3 _ (by omega) (by omega) (by omega) h.n3, q2 4 _ (by omega) (by omega) (by omega) h.n4, q2 5 _ (by omega) (by omega) (by omega) h.g5, ⟨a', set_get t2, ?_⟩, q2 7 _ (by omega) (by omega) (by omega) h.r7, by simp; omega⟩, ?_⟩
    · rw [List.getElem?_set_ne (by omega), hk2.2.1 1 (by omega) (fun f => f)]; exact get_ext s1 _
    · rw [natI_app]
      exact ho2.keep (X := fun _ => False) (fun k sz ver rs hk hlo => get_set hk (by omega))
    · exact SK.trans k1 (SK.trans (SK.app (B := [.rows 1 0 [[.p (.i .i64 i)]]]) (by omega)) (SK.trans (hk2.weak (fun k f => f.elim)) (SK.set (.inl rfl))))
  · have hf : seen[i]? = some true := by
      rw [List.getElem?_eq_getElem hi]; simpa using hc
    simp only [go_sem, Nat.reduceEqDiff, reduceIte, ↓reduceIte, Nat.reduceAdd, List.replicate_succ, List.replicate_zero, List.set_cons_zero, List.set_cons_succ, List.length_cons, List.length_nil, Nat.reduceLT, Nat.lt_add_one, ne_eq, Int.reduceEq, not_false_eq_true, Option.map_some, Nat.reduceLeDiff, Nat.zero_lt_succ, List.map_cons, List.map_nil, List.nil_append, List.cons_append, List.append_nil, bytesOf, List.take_succ_cons, List.take_zero, List.drop_zero, and_self, List.append_assoc, List.length_append, Int.reduceLT, Int.reduceLE, Int.toNat_zero, Int.reduceToNat, Int.cast_ofNat_Int, Int.natCast_zero, Int.natCast_one, Int.reduceAdd, List.map_append, Option.bind_some]
    rw [if_pos hf, set_true_same hf]
    exact ⟨h, SK.refl _ _ _⟩

theorem implMark {c : CodeD} {E : Nat → Prop} {H : List AO} {seen named : List Bool} {todo : List Nat} {g : Bool} (h : IS c H seen named todo g) (hv : Inv c E seen named todo g) (hcnt : cnt seen todo ≤ 100000) {n : Int} (hn0 : 0 ≤ n) (hn : n.toNat < c.ins.length) (hr : Rch c n.toNat) :
    ACall Try.prog 82 [.p (.i .i64 n), .ptr 2 0, .ptr 6 0] H (fun r H' => ∃ seen' todo', IS c H' seen' named todo' g ∧ Marked c E seen named todo g n.toNat seen' todo' ∧ SK 8 (fun k => k = 6 ∨ k = 1) H H') := by
  have e : n = ((n.toNat : Nat) : Int) := by omega
  have hl : todo.length ≤ 100000 := by unfold cnt at hcnt; omega
  have := implReach h (i := n.toNat) (by rw [hv.ls]; exact hn) hl
  rw [← e] at this
  exact this.mono fun r H' ⟨h1, h2⟩ => ⟨_, _, h1, marked hv hn hr, h2⟩

theorem implStarts {c : CodeD} {E : Nat → Prop} (hw : WF c) {H : List AO} {seen named : List Bool} {todo : List Nat} {g : Bool} (h : IS c H seen named todo g) (hv : Inv c E seen named todo g) (hcnt : cnt seen todo ≤ 100000) :
    ACall Try.prog 83 [.ptr 4 0, .ptr 5 0, .ptr 7 0, .ptr 0 0] H (fun r H' => ∃ seen' todo', IS c H' seen' named todo' g ∧ Inv c E seen' named todo' g ∧ (∀ k : Nat, seen[k]? = some true → seen'[k]? = some true) ∧ cnt seen' todo' ≤ cnt seen todo ∧ Gd c seen' named g c.starts.length ∧ SK 8 (fun k => k = 6 ∨ k = 1) H H') := by
  refine call83 (by simp) ?_
  simp only [go_sem, Nat.reduceEqDiff, reduceIte, ↓reduceIte, Nat.reduceAdd, List.replicate_succ, List.replicate_zero, List.set_cons_zero, List.set_cons_succ, List.length_cons, List.length_nil, Nat.reduceLT, Nat.lt_add_one, ne_eq, Int.reduceEq, not_false_eq_true, Option.map_some, Nat.reduceLeDiff, Nat.zero_lt_succ, List.map_cons, List.map_nil, List.nil_append, List.cons_append, List.append_nil, bytesOf, List.take_succ_cons, List.take_zero, List.drop_zero, and_self, List.append_assoc, List.length_append, Int.reduceLT, Int.reduceLE, Int.toNat_zero, Int.reduceToNat, Int.cast_ofNat_Int, Int.natCast_zero, Int.natCast_one, Int.reduceAdd, List.map_append, Option.bind_some, mc83, mr83, h.n4]
  intro _
  refine ⟨Nat × List Bool × List Nat × List AO, [0, 1, 2, 3, 6, 7, 8], fun y st => y.1 ≤ named.length ∧ IS c y.2.2.2 y.2.1 named y.2.2.1 g ∧ Inv c E y.2.1 named y.2.2.1 g ∧ (∀ k : Nat, seen[k]? = some true → y.2.1[k]? = some true) ∧ cnt y.2.1 y.2.2.1 ≤ cnt seen todo ∧ Gd c y.2.1 named g y.1 ∧ SK 8 (fun k => k = 6 ∨ k = 1) H y.2.2.2 ∧
    st = ⟨[(0, .ptr 4 0), (1, .ptr 5 0), (2, .ptr 7 0), (3, .ptr 0 0), (6, .gs 3 0 0 named.length), (7, .p (.i .i64 named.length)), (8, .p (.i .i64 y.1))], [], y.2.2.2⟩, fun y => named.length - y.1, ⟨⟨0, seen, todo, H⟩, ?_⟩, ?_⟩
  · simp only [go_sem, Nat.reduceEqDiff, reduceIte, ↓reduceIte, Nat.reduceAdd, List.replicate_succ, List.replicate_zero, List.set_cons_zero, List.set_cons_succ, List.length_cons, List.length_nil, Nat.reduceLT, Nat.lt_add_one, ne_eq, Int.reduceEq, not_false_eq_true, Option.map_some, Nat.reduceLeDiff, Nat.zero_lt_succ, List.map_cons, List.map_nil, List.nil_append, List.cons_append, List.append_nil, bytesOf, List.take_succ_cons, List.take_zero, List.drop_zero, and_self, List.append_assoc, List.length_append, Int.reduceLT, Int.reduceLE, Int.toNat_zero, Int.reduceToNat, Int.cast_ofNat_Int, Int.natCast_zero, Int.natCast_one, Int.reduceAdd, List.map_append, Option.bind_some]
    exact ⟨Nat.zero_le _, h, hv, fun _ h => h, Nat.le_refl _, fun k hk => by omega, SK.refl _ _ _⟩
  rintro ⟨k, seen1, todo1, H1⟩ st ⟨hk, h1, hv1, hm1, hc1, hg1, k1, rfl⟩
  simp only at hk h1 hv1 hm1 hc1 hg1 k1
  simp only [go_sem, Nat.reduceEqDiff, reduceIte, ↓reduceIte, Nat.reduceAdd, List.replicate_succ, List.replicate_zero, List.set_cons_zero, List.set_cons_succ, List.length_cons, List.length_nil, Nat.reduceLT, Nat.lt_add_one, ne_eq, Int.reduceEq, not_false_eq_true, Option.map_some, Nat.reduceLeDiff, Nat.zero_lt_succ, List.map_cons, List.map_nil, List.nil_append, List.cons_append, List.append_nil, bytesOf, List.take_succ_cons, List.take_zero, List.drop_zero, and_self, List.append_assoc, List.length_append, Int.reduceLT, Int.reduceLE, Int.toNat_zero, Int.reduceToNat, Int.cast_ofNat_Int, Int.natCast_zero, Int.natCast_one, Int.reduceAdd, List.map_append, Option.bind_some]
  refine condK_split _ (fun hd => ?_) (fun hd => ?_)
  · have hkn : k < named.length := by simpa using hd
    have hks : k < c.starts.length := by rw [← hv1.ln]; exact hkn
    have hk1 : wr .i64 ((k : Int) + 1) = ((k + 1 : Nat) : Int) := wr1 hkn (by have := hw.les; rw [hv1.ln]; unfold maxL; omega)
    simp only [go_sem, Nat.reduceEqDiff, reduceIte, ↓reduceIte, Nat.reduceAdd, List.replicate_succ, List.replicate_zero, List.set_cons_zero, List.set_cons_succ, List.length_cons, List.length_nil, Nat.reduceLT, Nat.lt_add_one, ne_eq, Int.reduceEq, not_false_eq_true, Option.map_some, Nat.reduceLeDiff, Nat.zero_lt_succ, List.map_cons, List.map_nil, List.nil_append, List.cons_append, List.append_nil, bytesOf, List.take_succ_cons, List.take_zero, List.drop_zero, and_self, List.append_assoc, List.length_append, Int.reduceLT, Int.reduceLE, Int.toNat_zero, Int.reduceToNat, Int.cast_ofNat_Int, Int.natCast_zero, Int.natCast_one, Int.reduceAdd, List.map_append, Option.bind_some, h1.n3, boolR_at hkn]
    refine ⟨by simpa using hd, ?_⟩
    simp only [go_sem, Nat.reduceEqDiff, reduceIte, ↓reduceIte, Nat.reduceAdd, List.replicate_succ, List.replicate_zero, List.set_cons_zero, List.set_cons_succ, List.length_cons, List.length_nil, Nat.reduceLT, Nat.lt_add_one, ne_eq, Int.reduceEq, not_false_eq_true, Option.map_some, Nat.reduceLeDiff, Nat.zero_lt_succ, List.map_cons, List.map_nil, List.nil_append, List.cons_append, List.append_nil, bytesOf, List.take_succ_cons, List.take_zero, List.drop_zero, and_self, List.append_assoc, List.length_append, Int.reduceLT, Int.reduceLE, Int.toNat_zero, Int.reduceToNat, Int.cast_ofNat_Int, Int.natCast_zero, Int.natCast_one, Int.reduceAdd, List.map_append, Option.bind_some, h1.g5]
    have step : ∀ (seen2 : List Bool) (todo2 : List Nat) (H2 : List AO), IS c H2 seen2 named todo2 g → Inv c E seen2 named todo2 g → (∀ k : Nat, seen[k]? = some true → seen2[k]? = some true) → cnt seen2 todo2 ≤ cnt seen todo → Gd c seen2 named g (k + 1) → SK 8 (fun k => k = 6 ∨ k = 1) H H2 →
        ∃ y : Nat × List Bool × List Nat × List AO, (y.1 ≤ named.length ∧ IS c y.2.2.2 y.2.1 named y.2.2.1 g ∧ Inv c E y.2.1 named y.2.2.1 g ∧ (∀ k : Nat, seen[k]? = some true → y.2.1[k]? = some true) ∧ cnt y.2.1 y.2.2.1 ≤ cnt seen todo ∧ Gd c y.2.1 named g y.1 ∧ SK 8 (fun k => k = 6 ∨ k = 1) H y.2.2.2 ∧
          (⟨[(0, .ptr 4 0), (1, .ptr 5 0), (2, .ptr 7 0), (3, .ptr 0 0), (6, .gs 3 0 0 named.length), (7, .p (.i .i64 named.length)), (8, .p (.i .i64 (wr .i64 ((k : Int) + 1))))], [], H2⟩ : St) = ⟨[(0, .ptr 4 0), (1, .ptr 5 0), (2, .ptr 7 0), (3, .ptr 0 0), (6, .gs 3 0 0 named.length), (7, .p (.i .i64 named.length)), (8, .p (.i .i64 y.1))], [], y.2.2.2⟩) ∧ named.length - y.1 < named.length - k := by
      intro seen2 todo2 H2 a1 a2 a3 a4 a5 a6
      exact ⟨⟨k + 1, seen2, todo2, H2⟩, ⟨hkn, a1, a2, a3, a4, a5, a6, by rw [hk1]⟩, by simp only; omega⟩
    have skip : (g = true → named[k] = true → False) → Gd c seen1 named g (k + 1) := by
      intro hf q hq hnq hgt s hs
      by_cases e : q = k
      · subst e
        rw [List.getElem?_eq_getElem hkn] at hnq
        exact (hf hgt (by simpa using hnq)).elim
      · exact hg1 q (by omega) hnq hgt s hs
    refine condK_split _ (fun hgt => ?_) (fun hgt => ?_)
    · subst hgt
      have hgt' : true = true := rfl
      simp only [go_sem, Nat.reduceEqDiff, reduceIte, ↓reduceIte, Nat.reduceAdd, List.replicate_succ, List.replicate_zero, List.set_cons_zero, List.set_cons_succ, List.length_cons, List.length_nil, Nat.reduceLT, Nat.lt_add_one, ne_eq, Int.reduceEq, not_false_eq_true, Option.map_some, Nat.reduceLeDiff, Nat.zero_lt_succ, List.map_cons, List.map_nil, List.nil_append, List.cons_append, List.append_nil, bytesOf, List.take_succ_cons, List.take_zero, List.drop_zero, and_self, List.append_assoc, List.length_append, Int.reduceLT, Int.reduceLE, Int.toNat_zero, Int.reduceToNat, Int.cast_ofNat_Int, Int.natCast_zero, Int.natCast_one, Int.reduceAdd, List.map_append, Option.bind_some]
      refine condK_split _ (fun hb => ?_) (fun hb => ?_)
      · simp only [go_sem, Nat.reduceEqDiff, reduceIte, ↓reduceIte, Nat.reduceAdd, List.replicate_succ, List.replicate_zero, List.set_cons_zero, List.set_cons_succ, List.length_cons, List.length_nil, Nat.reduceLT, Nat.lt_add_one, ne_eq, Int.reduceEq, not_false_eq_true, Option.map_some, Nat.reduceLeDiff, Nat.zero_lt_succ, List.map_cons, List.map_nil, List.nil_append, List.cons_append, List.append_nil, bytesOf, List.take_succ_cons, List.take_zero, List.drop_zero, and_self, List.append_assoc, List.length_append, Int.reduceLT, Int.reduceLE, Int.toNat_zero, Int.reduceToNat, Int.cast_ofNat_Int, Int.natCast_zero, Int.natCast_one, Int.reduceAdd, List.map_append, Option.bind_some]
        refine drw_same ?_
        simp only [go_sem, Nat.reduceEqDiff, reduceIte, ↓reduceIte, Nat.reduceAdd, List.replicate_succ, List.replicate_zero, List.set_cons_zero, List.set_cons_succ, List.length_cons, List.length_nil, Nat.reduceLT, Nat.lt_add_one, ne_eq, Int.reduceEq, not_false_eq_true, Option.map_some, Nat.reduceLeDiff, Nat.zero_lt_succ, List.map_cons, List.map_nil, List.nil_append, List.cons_append, List.append_nil, bytesOf, List.take_succ_cons, List.take_zero, List.drop_zero, and_self, List.append_assoc, List.length_append, Int.reduceLT, Int.reduceLE, Int.toNat_zero, Int.reduceToNat, Int.cast_ofNat_Int, Int.natCast_zero, Int.natCast_one, Int.reduceAdd, List.map_append, Option.bind_some, h1.r7, h1.c0, ints_at _ hks]
        obtain ⟨s0, s1⟩ := hw.start k _ (List.getElem?_eq_getElem hks)
        obtain ⟨i', y', q1, q2, q3, q4⟩ := hv1.sn k (by rw [List.getElem?_eq_getElem hkn, hb])
        obtain ⟨i2, x2, r1, r2, r3⟩ := hv1.sg hgt'
        refine (implMark h1 hv1 (Nat.le_trans hc1 hcnt) s0 s1 (.go i2 x2 i' y' _ r1 r2 r3 q1 q2 q3 (by rw [q4]; exact List.getElem?_eq_getElem hks))).mono ?_
        rintro r H3 ⟨seen3, todo3, h3, hm3, k3⟩
        simp only [go_sem, Nat.reduceEqDiff, reduceIte, ↓reduceIte, Nat.reduceAdd, List.replicate_succ, List.replicate_zero, List.set_cons_zero, List.set_cons_succ, List.length_cons, List.length_nil, Nat.reduceLT, Nat.lt_add_one, ne_eq, Int.reduceEq, not_false_eq_true, Option.map_some, Nat.reduceLeDiff, Nat.zero_lt_succ, List.map_cons, List.map_nil, List.nil_append, List.cons_append, List.append_nil, bytesOf, List.take_succ_cons, List.take_zero, List.drop_zero, and_self, List.append_assoc, List.length_append, Int.reduceLT, Int.reduceLE, Int.toNat_zero, Int.reduceToNat, Int.cast_ofNat_Int, Int.natCast_zero, Int.natCast_one, Int.reduceAdd, List.map_append, Option.bind_some]
        refine step seen3 todo3 H3 h3 hm3.inv (fun q hq => hm3.mono q (hm1 q hq)) (Nat.le_trans hm3.cnt hc1) ?_ (k1.trans k3)
        intro q hq hnq hg' s hs
        by_cases e : q = k
        · subst e
          rw [List.getElem?_eq_getElem hks] at hs
          cases hs
          exact hm3.at'
        · exact hm3.mono _ (hg1 q (by omega) hnq hg' s hs)
      · simp only [go_sem, Nat.reduceEqDiff, reduceIte, ↓reduceIte, Nat.reduceAdd, List.replicate_succ, List.replicate_zero, List.set_cons_zero, List.set_cons_succ, List.length_cons, List.length_nil, Nat.reduceLT, Nat.lt_add_one, ne_eq, Int.reduceEq, not_false_eq_true, Option.map_some, Nat.reduceLeDiff, Nat.zero_lt_succ, List.map_cons, List.map_nil, List.nil_append, List.cons_append, List.append_nil, bytesOf, List.take_succ_cons, List.take_zero, List.drop_zero, and_self, List.append_assoc, List.length_append, Int.reduceLT, Int.reduceLE, Int.toNat_zero, Int.reduceToNat, Int.cast_ofNat_Int, Int.natCast_zero, Int.natCast_one, Int.reduceAdd, List.map_append, Option.bind_some]
        exact step seen1 todo1 H1 h1 hv1 hm1 hc1 (skip (fun _ h => by rw [h] at hb; cases hb)) k1
    · subst hgt
      simp only [go_sem, Nat.reduceEqDiff, reduceIte, ↓reduceIte, Nat.reduceAdd, List.replicate_succ, List.replicate_zero, List.set_cons_zero, List.set_cons_succ, List.length_cons, List.length_nil, Nat.reduceLT, Nat.lt_add_one, ne_eq, Int.reduceEq, not_false_eq_true, Option.map_some, Nat.reduceLeDiff, Nat.zero_lt_succ, List.map_cons, List.map_nil, List.nil_append, List.cons_append, List.append_nil, bytesOf, List.take_succ_cons, List.take_zero, List.drop_zero, and_self, List.append_assoc, List.length_append, Int.reduceLT, Int.reduceLE, Int.toNat_zero, Int.reduceToNat, Int.cast_ofNat_Int, Int.natCast_zero, Int.natCast_one, Int.reduceAdd, List.map_append, Option.bind_some]
      exact step seen1 todo1 H1 h1 hv1 hm1 hc1 (skip (fun h _ => by cases h)) k1
  · have hkn : k = named.length := by simp at hd; omega
    simp only [go_sem, Nat.reduceEqDiff, reduceIte, ↓reduceIte, Nat.reduceAdd, List.replicate_succ, List.replicate_zero, List.set_cons_zero, List.set_cons_succ, List.length_cons, List.length_nil, Nat.reduceLT, Nat.lt_add_one, ne_eq, Int.reduceEq, not_false_eq_true, Option.map_some, Nat.reduceLeDiff, Nat.zero_lt_succ, List.map_cons, List.map_nil, List.nil_append, List.cons_append, List.append_nil, bytesOf, List.take_succ_cons, List.take_zero, List.drop_zero, and_self, List.append_assoc, List.length_append, Int.reduceLT, Int.reduceLE, Int.toNat_zero, Int.reduceToNat, Int.cast_ofNat_Int, Int.natCast_zero, Int.natCast_one, Int.reduceAdd, List.map_append, Option.bind_some]
    exact ⟨seen1, todo1, h1, hv1, hm1, hc1, by rw [hkn, hv1.ln] at hg1; exact hg1, k1⟩
end Go.Proofs.Ytmbggdfceecojaa.Cd

/- What is reached in a code: by the program. -/
set_option linter.all false
namespace Go.Proofs.Ytmbggdfceecojaa.Cd
open Go.AM Mc Ho

theorem IS.pop {c : CodeD} {H : List AO} {seen named : List Bool} {todo : List Nat} {a : Nat} {g : Bool} (h : IS c H seen named (todo ++ [a]) g) {id ver : Nat} (h6 : H[6]? = some (.var [.gs id ver 0 (natI (todo ++ [a])).length])) {rs : List (List AV)} (hlo : 8 ≤ id) (hid : H[id]? = some (.rows 1 ver rs)) (htk : rs.take (natI (todo ++ [a])).length = intR .i64 (natI (todo ++ [a]))) (hrl : (natI (todo ++ [a])).length ≤ rs.length) :
    IS c (H.set 6 (.var [.gs id ver 0 todo.length])) seen named todo g := by
  refine ⟨get_set h.c0 (by omega), get_set h.s1 (by omega), get_set h.o2 (by omega), get_set h.n3 (by omega), get_set h.n4 (by omega), get_set h.g5 (by omega), ⟨_, set_get h6, .inr ⟨id, ver, rs, hlo, by rw [natI_len], get_set hid (by omega), ?_, ?_⟩⟩, get_set h.r7 (by omega), by have := h.ln; simp; exact this⟩
  · have := congrArg (List.take (natI todo).length) htk
    rw [List.take_take] at this
    rw [natI_app] at this
    rw [show min (natI todo).length (natI todo ++ [(a : Int)]).length = (natI todo).length by simp] at this
    rw [this]
    simp [intR]
  · rw [natI_app] at hrl; simp at hrl ⊢; omega
theorem row_last {rs : List (List AV)} {todo : List Nat} {a : Nat} (htk : rs.take (natI (todo ++ [a])).length = intR .i64 (natI (todo ++ [a]))) : rs[todo.length]? = some [.p (.i .i64 a)] := by
  have : (rs.take (natI (todo ++ [a])).length)[todo.length]? = rs[todo.length]? := by
    rw [List.getElem?_take, if_pos (by simp [natI])]
  rw [← this, htk]
  simp [intR, natI]

theorem IS.named {c : CodeD} {H : List AO} {seen named : List Bool} {todo : List Nat} {g : Bool} (h : IS c H seen named todo g) (i : Nat) : IS c (H.set 3 (.rows 1 0 (boolR (named.set i true)))) seen (named.set i true) todo g := by
  obtain ⟨t, h1, h2⟩ := h.l6
  exact ⟨get_set h.c0 (by omega), get_set h.s1 (by omega), get_set h.o2 (by omega), set_get h.n3, by rw [List.length_set]; exact get_set h.n4 (by omega), get_set h.g5 (by omega), ⟨t, get_set h1 (by omega), h2.keep (X := fun _ => False) (fun k sz ver rs hk hlo => get_set hk (by omega))⟩, get_set h.r7 (by omega), by have := h.ln; simp; exact this⟩
theorem IS.goes {c : CodeD} {H : List AO} {seen named : List Bool} {todo : List Nat} {g : Bool} (h : IS c H seen named todo g) (g' : Bool) : IS c (H.set 5 (.var [.p (.b g')])) seen named todo g' := by
  obtain ⟨t, h1, h2⟩ := h.l6
  exact ⟨get_set h.c0 (by omega), get_set h.s1 (by omega), get_set h.o2 (by omega), get_set h.n3 (by omega), get_set h.n4 (by omega), set_get h.g5, ⟨t, get_set h1 (by omega), h2.keep (X := fun _ => False) (fun k sz ver rs hk hlo => get_set hk (by omega))⟩, get_set h.r7 (by omega), by have := h.ln; simp; exact this⟩

set_option maxHeartbeats 4000000 in
theorem implReached0 (c : CodeD) (hok : okCode c) : ACall Try.prog 29 [.st (c.cells.map .p)] [] (fun r H' => OwnR H' r 1 (boolR (reachD c))) := by
  refine call29 (by simp) ?_
  simp only [go_sem, Nat.reduceEqDiff, reduceIte, ↓reduceIte, Nat.reduceAdd, List.replicate_succ, List.replicate_zero, List.set_cons_zero, List.set_cons_succ, List.length_cons, List.length_nil, Nat.reduceLT, Nat.lt_add_one, ne_eq, Int.reduceEq, not_false_eq_true, Option.map_some, Nat.reduceLeDiff, Nat.zero_lt_succ, List.map_cons, List.map_nil, List.nil_append, List.cons_append, List.append_nil, bytesOf, List.take_succ_cons, List.take_zero, List.drop_zero, and_self, List.append_assoc, List.length_append, Int.reduceLT, Int.reduceLE, Int.toNat_zero, Int.reduceToNat, Int.cast_ofNat_Int, Int.natCast_zero, Int.natCast_one, Int.reduceAdd, List.map_append, Option.bind_some, mc29, mr29, CodeD.cells]
  rw [code_eta]
  refine (acall_lend (implCodeOk c hok) (fun r H' h => by subst h; exact grnd_b _) (lentAll_cons (code_lent c) (lentAll_nil _))).mono ?_
  rintro r H' ⟨rfl, _, rfl⟩
  simp only [go_sem, Nat.reduceEqDiff, reduceIte, ↓reduceIte, Nat.reduceAdd, List.replicate_succ, List.replicate_zero, List.set_cons_zero, List.set_cons_succ, List.length_cons, List.length_nil, Nat.reduceLT, Nat.lt_add_one, ne_eq, Int.reduceEq, not_false_eq_true, Option.map_some, Nat.reduceLeDiff, Nat.zero_lt_succ, List.map_cons, List.map_nil, List.nil_append, List.cons_append, List.append_nil, bytesOf, List.take_succ_cons, List.take_zero, List.drop_zero, and_self, List.append_assoc, List.length_append, Int.reduceLT, Int.reduceLE, Int.toNat_zero, Int.reduceToNat, Int.cast_ofNat_Int, Int.natCast_zero, Int.natCast_one, Int.reduceAdd, List.map_append, Option.bind_some]
  refine condK_split _ (fun hco => ?_) (fun hco => ?_)
  · simp only [go_sem, Nat.reduceEqDiff, reduceIte, ↓reduceIte, Nat.reduceAdd, List.replicate_succ, List.replicate_zero, List.set_cons_zero, List.set_cons_succ, List.length_cons, List.length_nil, Nat.reduceLT, Nat.lt_add_one, ne_eq, Int.reduceEq, not_false_eq_true, Option.map_some, Nat.reduceLeDiff, Nat.zero_lt_succ, List.map_cons, List.map_nil, List.nil_append, List.cons_append, List.append_nil, bytesOf, List.take_succ_cons, List.take_zero, List.drop_zero, and_self, List.append_assoc, List.length_append, Int.reduceLT, Int.reduceLE, Int.toNat_zero, Int.reduceToNat, Int.cast_ofNat_Int, Int.natCast_zero, Int.natCast_one, Int.reduceAdd, List.map_append, Option.bind_some]
    have : codeOk c = false := by simpa using hco
    have hr : reachD c = [] := by unfold reachD; rw [if_neg (by simp [this])]
    rw [hr]
    exact .inl ⟨rfl, rfl⟩
  have hco' : codeOk c = true := by simpa using hco
  have hw := codeOk_wf hco'
  have hle := hw.le
  have hles := hw.les
  simp only [go_sem, Nat.reduceEqDiff, reduceIte, ↓reduceIte, Nat.reduceAdd, List.replicate_succ, List.replicate_zero, List.set_cons_zero, List.set_cons_succ, List.length_cons, List.length_nil, Nat.reduceLT, Nat.lt_add_one, ne_eq, Int.reduceEq, not_false_eq_true, Option.map_some, Nat.reduceLeDiff, Nat.zero_lt_succ, List.map_cons, List.map_nil, List.nil_append, List.cons_append, List.append_nil, bytesOf, List.take_succ_cons, List.take_zero, List.drop_zero, and_self, List.append_assoc, List.length_append, Int.reduceLT, Int.reduceLE, Int.toNat_zero, Int.reduceToNat, Int.cast_ofNat_Int, Int.natCast_zero, Int.natCast_one, Int.reduceAdd, List.map_append, Option.bind_some, CodeD.cells, inss_len, ints_len]
  intro _
  refine ⟨by omega, by omega, by omega, fun _ => ⟨by omega, by omega, by omega, ?_⟩⟩
  have h0 : IS c [.var [.p (.l (inss c.ins)), .p (.l (ints c.starts))], .rows 1 0 (List.replicate c.ins.length [.p (.b false)]), .var [.gs 1 0 0 c.ins.length], .rows 1 0 (List.replicate c.starts.length [.p (.b false)]), .var [.gs 3 0 0 c.starts.length], .var [.p (.b false)], .var [.p .nl], .var [.clo 82 [.ptr 2 0, .ptr 6 0]]]
      (List.replicate c.ins.length false) (List.replicate c.starts.length false) [] false :=
    ⟨rfl, by simp [boolR], by simp, by simp [boolR], by simp, rfl, ⟨_, rfl, .inl ⟨rfl, rfl⟩⟩, rfl, by simp⟩
  generalize [AO.var [.p (.l (inss c.ins)), .p (.l (ints c.starts))], .rows 1 0 (List.replicate c.ins.length [.p (.b false)]), .var [.gs 1 0 0 c.ins.length], .rows 1 0 (List.replicate c.starts.length [.p (.b false)]), .var [.gs 3 0 0 c.starts.length], .var [.p (.b false)], .var [.p .nl], .var [.clo 82 [.ptr 2 0, .ptr 6 0]]] = H0 at h0 ⊢
  refine (implReach h0 (i := 0) (by simp; exact hw.pos) (by simp)).mono ?_
  rintro r H1 ⟨h1, _⟩
  have hnf : ¬ (List.replicate c.ins.length false)[0]? = some true := by simp [List.getElem?_replicate]
  rw [if_neg hnf] at h1
  have hc0 : cnt ((List.replicate c.ins.length false).set 0 true) [0] ≤ 80000 := by
    have h2 := count_set (l := List.replicate c.ins.length false) (i := 0) (by simp [hw.pos])
    simp only [List.count_replicate_self] at h2
    unfold cnt; simp only [List.length_cons, List.length_nil]; omega
  clear h0
  simp only [go_sem, Nat.reduceEqDiff, reduceIte, ↓reduceIte, Nat.reduceAdd, List.replicate_succ, List.replicate_zero, List.set_cons_zero, List.set_cons_succ, List.length_cons, List.length_nil, Nat.reduceLT, Nat.lt_add_one, ne_eq, Int.reduceEq, not_false_eq_true, Option.map_some, Nat.reduceLeDiff, Nat.zero_lt_succ, List.map_cons, List.map_nil, List.nil_append, List.cons_append, List.append_nil, bytesOf, List.take_succ_cons, List.take_zero, List.drop_zero, and_self, List.append_assoc, List.length_append, Int.reduceLT, Int.reduceLE, Int.toNat_zero, Int.reduceToNat, Int.cast_ofNat_Int, Int.natCast_zero, Int.natCast_one, Int.reduceAdd, List.map_append, Option.bind_some]
  refine ⟨List Bool × List Bool × List Nat × Bool × List AO, [0, 1, 2, 3, 4, 5, 6, 7, 8], fun y st => IS c y.2.2.2.2 y.1 y.2.1 y.2.2.1 y.2.2.2.1 ∧ Inv c (fun _ => False) y.1 y.2.1 y.2.2.1 y.2.2.2.1 ∧ Gd c y.1 y.2.1 y.2.2.2.1 c.starts.length ∧ cnt y.1 y.2.2.1 ≤ 80000 ∧
    st = ⟨[(0, .st [.p (.l (inss c.ins)), .p (.l (ints c.starts))]), (1, .ptr 0 0), (2, .p .nl), (3, .ptr 2 0), (4, .ptr 4 0), (5, .ptr 5 0), (6, .ptr 6 0), (7, .ptr 7 0), (8, .clo 83 [.ptr 4 0, .ptr 5 0, .ptr 7 0, .ptr 0 0])], [], y.2.2.2.2⟩, fun y => cnt y.1 y.2.2.1, ⟨⟨(List.replicate c.ins.length false).set 0 true, List.replicate c.starts.length false, [0], false, H1⟩, ?_⟩, ?_⟩
  · simp only [go_sem, Nat.reduceEqDiff, reduceIte, ↓reduceIte, Nat.reduceAdd, List.replicate_succ, List.replicate_zero, List.set_cons_zero, List.set_cons_succ, List.length_cons, List.length_nil, Nat.reduceLT, Nat.lt_add_one, ne_eq, Int.reduceEq, not_false_eq_true, Option.map_some, Nat.reduceLeDiff, Nat.zero_lt_succ, List.map_cons, List.map_nil, List.nil_append, List.cons_append, List.append_nil, bytesOf, List.take_succ_cons, List.take_zero, List.drop_zero, and_self, List.append_assoc, List.length_append, Int.reduceLT, Int.reduceLE, Int.toNat_zero, Int.reduceToNat, Int.cast_ofNat_Int, Int.natCast_zero, Int.natCast_one, Int.reduceAdd, List.map_append, Option.bind_some]
    exact ⟨h1, inv0 hw, gd0 _ _ _, hc0⟩
  clear h1 hc0 hnf
  rintro ⟨seen, named, todo, g, H⟩ st ⟨h, hv, hg, hc, rfl⟩
  simp only at h hv hg hc
  obtain ⟨t, e1, e2⟩ := h.l6
  have fin : todo = [] → OwnR H (.gs 1 0 0 seen.length) 1 (boolR (reachD c)) := by
    intro ht
    subst ht
    rw [← seen_reach hco' hw hv hg]
    exact .inr ⟨1, 0, by rw [boolR_len], h.s1⟩
  rcases e2 with ⟨rfl, hz⟩ | ⟨id, ver, rs, hlo, rfl, hid, htk, hrl⟩
  · have ht : todo = [] := by cases todo with
      | nil => rfl
      | cons a l => simp [natI] at hz
    simp only [go_sem, Nat.reduceEqDiff, reduceIte, ↓reduceIte, Nat.reduceAdd, List.replicate_succ, List.replicate_zero, List.set_cons_zero, List.set_cons_succ, List.length_cons, List.length_nil, Nat.reduceLT, Nat.lt_add_one, ne_eq, Int.reduceEq, not_false_eq_true, Option.map_some, Nat.reduceLeDiff, Nat.zero_lt_succ, List.map_cons, List.map_nil, List.nil_append, List.cons_append, List.append_nil, bytesOf, List.take_succ_cons, List.take_zero, List.drop_zero, and_self, List.append_assoc, List.length_append, Int.reduceLT, Int.reduceLE, Int.toNat_zero, Int.reduceToNat, Int.cast_ofNat_Int, Int.natCast_zero, Int.natCast_one, Int.reduceAdd, List.map_append, Option.bind_some, e1, Int.lt_irrefl, decide_false, h.o2]
    exact fin ht
  · simp only [go_sem, Nat.reduceEqDiff, reduceIte, ↓reduceIte, Nat.reduceAdd, List.replicate_succ, List.replicate_zero, List.set_cons_zero, List.set_cons_succ, List.length_cons, List.length_nil, Nat.reduceLT, Nat.lt_add_one, ne_eq, Int.reduceEq, not_false_eq_true, Option.map_some, Nat.reduceLeDiff, Nat.zero_lt_succ, List.map_cons, List.map_nil, List.nil_append, List.cons_append, List.append_nil, bytesOf, List.take_succ_cons, List.take_zero, List.drop_zero, and_self, List.append_assoc, List.length_append, Int.reduceLT, Int.reduceLE, Int.toNat_zero, Int.reduceToNat, Int.cast_ofNat_Int, Int.natCast_zero, Int.natCast_one, Int.reduceAdd, List.map_append, Option.bind_some, e1, natI_len]
    intro _
    refine condK_split _ (fun hd => ?_) (fun hd => ?_)
    · have hpos : todo ≠ [] := by rintro rfl; simp at hd
      obtain ⟨todo', a, rfl⟩ : ∃ l a, todo = l ++ [a] := ⟨_, _, (List.dropLast_concat_getLast hpos).symm⟩
      have hsa := hv.st a (by simp)
      have hal : a < c.ins.length := by rw [← hv.ls]; exact (List.getElem?_eq_some_iff.1 hsa).1
      have htl : todo'.length < 80000 := by unfold cnt at hc; simp at hc; omega
      have hn1 : wr .i64 (((todo'.length + 1 : Nat) : Int) - 1) = (todo'.length : Int) := by rw [wr64 (by omega) (by omega)]; omega
      have hrow := row_last htk
      have h2 := h.pop e1 hlo hid htk hrl
      have hra := hv.ss a hsa
      have hcc : cnt seen todo' + 1 = cnt seen (todo' ++ [a]) := by unfold cnt; simp; omega
      have hx : c.ins[a]? = some c.ins[a] := List.getElem?_eq_getElem hal
      generalize c.ins[a] = x at hx
      have hxi := inss_get hx
      have hp := hv.pop
      have hcp : cnt seen todo' ≤ 80000 := by omega
      have i1 : wr .i64 ((a : Int) + 1) = ((a + 1 : Nat) : Int) := wr1 hal hok.1.1
      have cont : ∀ (seen3 named3 : List Bool) (todo3 : List Nat) (g3 : Bool) (H3 : List AO), IS c H3 seen3 named3 todo3 g3 → Inv c (fun _ => False) seen3 named3 todo3 g3 → Gd c seen3 named3 g3 c.starts.length → cnt seen3 todo3 ≤ cnt seen todo' →
          ∃ y : List Bool × List Bool × List Nat × Bool × List AO, (IS c y.2.2.2.2 y.1 y.2.1 y.2.2.1 y.2.2.2.1 ∧ Inv c (fun _ => False) y.1 y.2.1 y.2.2.1 y.2.2.2.1 ∧ Gd c y.1 y.2.1 y.2.2.2.1 c.starts.length ∧ cnt y.1 y.2.2.1 ≤ 80000 ∧
            (⟨[(0, .st [.p (.l (inss c.ins)), .p (.l (ints c.starts))]), (1, .ptr 0 0), (2, .p .nl), (3, .ptr 2 0), (4, .ptr 4 0), (5, .ptr 5 0), (6, .ptr 6 0), (7, .ptr 7 0), (8, .clo 83 [.ptr 4 0, .ptr 5 0, .ptr 7 0, .ptr 0 0])], [], H3⟩ : St) = ⟨[(0, .st [.p (.l (inss c.ins)), .p (.l (ints c.starts))]), (1, .ptr 0 0), (2, .p .nl), (3, .ptr 2 0), (4, .ptr 4 0), (5, .ptr 5 0), (6, .ptr 6 0), (7, .ptr 7 0), (8, .clo 83 [.ptr 4 0, .ptr 5 0, .ptr 7 0, .ptr 0 0])], [], y.2.2.2.2⟩) ∧ cnt y.1 y.2.2.1 < cnt seen (todo' ++ [a]) :=
        fun seen3 named3 todo3 g3 H3 q1 q2 q3 q4 => ⟨⟨seen3, named3, todo3, g3, H3⟩, ⟨q1, q2, q3, by simp only; omega, rfl⟩, by simp only; omega⟩
      simp only [go_sem, Nat.reduceEqDiff, reduceIte, ↓reduceIte, Nat.reduceAdd, List.replicate_succ, List.replicate_zero, List.set_cons_zero, List.set_cons_succ, List.length_cons, List.length_nil, Nat.reduceLT, Nat.lt_add_one, ne_eq, Int.reduceEq, not_false_eq_true, Option.map_some, Nat.reduceLeDiff, Nat.zero_lt_succ, List.map_cons, List.map_nil, List.nil_append, List.cons_append, List.append_nil, bytesOf, List.take_succ_cons, List.take_zero, List.drop_zero, and_self, List.append_assoc, List.length_append, Int.reduceLT, Int.reduceLE, Int.toNat_zero, Int.reduceToNat, Int.cast_ofNat_Int, Int.natCast_zero, Int.natCast_one, Int.reduceAdd, List.map_append, Option.bind_some, e1, List.length_append, natI_len, hn1, hid, hrow, Nat.sub_zero]
      clear hid htk hrl hrow e1 h fin hd hpos hv
      refine fun _ => ⟨by omega, fun _ => ⟨by omega, ?_⟩⟩
      generalize H.set 6 (.var [.gs id ver 0 todo'.length]) = H2 at h2 ⊢
      simp only [go_sem, Nat.reduceEqDiff, reduceIte, ↓reduceIte, Nat.reduceAdd, List.replicate_succ, List.replicate_zero, List.set_cons_zero, List.set_cons_succ, List.length_cons, List.length_nil, Nat.reduceLT, Nat.lt_add_one, ne_eq, Int.reduceEq, not_false_eq_true, Option.map_some, Nat.reduceLeDiff, Nat.zero_lt_succ, List.map_cons, List.map_nil, List.nil_append, List.cons_append, List.append_nil, bytesOf, List.take_succ_cons, List.take_zero, List.drop_zero, and_self, List.append_assoc, List.length_append, Int.reduceLT, Int.reduceLE, Int.toNat_zero, Int.reduceToNat, Int.cast_ofNat_Int, Int.natCast_zero, Int.natCast_one, Int.reduceAdd, List.map_append, Option.bind_some, h2.c0, hxi, ins_clen, ins_take, InsD.cells]
      have h3 := h2.ext [AO.var [.p (.i .i64 x.op), .p (.i .i64 x.a), .p (.i .i64 x.b), .p (.i .i64 x.c), .p (.i .i64 x.n), .p (.s x.text)]]
      have b1 : (H2 ++ [AO.var [.p (.i .i64 x.op), .p (.i .i64 x.a), .p (.i .i64 x.b), .p (.i .i64 x.c), .p (.i .i64 x.n), .p (.s x.text)]])[H2.length]? = some (.var [.p (.i .i64 x.op), .p (.i .i64 x.a), .p (.i .i64 x.b), .p (.i .i64 x.c), .p (.i .i64 x.n), .p (.s x.text)]) := get_off0 _ _
      have h8 := h2.ln
      generalize H2 ++ [AO.var [.p (.i .i64 x.op), .p (.i .i64 x.a), .p (.i .i64 x.b), .p (.i .i64 x.c), .p (.i .i64 x.n), .p (.s x.text)]] = H3 at h3 b1 ⊢
      by_cases h13 : x.op = 13
      · simp only [go_sem, Nat.reduceEqDiff, reduceIte, ↓reduceIte, Nat.reduceAdd, List.replicate_succ, List.replicate_zero, List.set_cons_zero, List.set_cons_succ, List.length_cons, List.length_nil, Nat.reduceLT, Nat.lt_add_one, ne_eq, Int.reduceEq, not_false_eq_true, Option.map_some, Nat.reduceLeDiff, Nat.zero_lt_succ, List.map_cons, List.map_nil, List.nil_append, List.cons_append, List.append_nil, bytesOf, List.take_succ_cons, List.take_zero, List.drop_zero, and_self, List.append_assoc, List.length_append, Int.reduceLT, Int.reduceLE, Int.toNat_zero, Int.reduceToNat, Int.cast_ofNat_Int, Int.natCast_zero, Int.natCast_one, Int.reduceAdd, List.map_append, Option.bind_some, h13, h3.g5]
        refine (implStarts hw (h3.goes true) (hp.goes hra hx h13) (by omega)).mono ?_
        rintro r H4 ⟨seen4, todo4, h4, hv4, hm4, hc4, hg4, k4⟩
        simp only [go_sem, Nat.reduceEqDiff, reduceIte, ↓reduceIte, Nat.reduceAdd, List.replicate_succ, List.replicate_zero, List.set_cons_zero, List.set_cons_succ, List.length_cons, List.length_nil, Nat.reduceLT, Nat.lt_add_one, ne_eq, Int.reduceEq, not_false_eq_true, Option.map_some, Nat.reduceLeDiff, Nat.zero_lt_succ, List.map_cons, List.map_nil, List.nil_append, List.cons_append, List.append_nil, bytesOf, List.take_succ_cons, List.take_zero, List.drop_zero, and_self, List.append_assoc, List.length_append, Int.reduceLT, Int.reduceLE, Int.toNat_zero, Int.reduceToNat, Int.cast_ofNat_Int, Int.natCast_zero, Int.natCast_one, Int.reduceAdd, List.map_append, Option.bind_some]
        exact cont seen4 named todo4 true H4 h4 (hv4.done (fun y hy => by
          rw [hx] at hy; cases hy
          exact ⟨fun o => by omega, fun f => by unfold falls at f; omega, fun _ => rfl, fun o => by omega⟩)) hg4 hc4
      by_cases h14 : x.op = 14
      · simp only [go_sem, Nat.reduceEqDiff, reduceIte, ↓reduceIte, Nat.reduceAdd, List.replicate_succ, List.replicate_zero, List.set_cons_zero, List.set_cons_succ, List.length_cons, List.length_nil, Nat.reduceLT, Nat.lt_add_one, ne_eq, Int.reduceEq, not_false_eq_true, Option.map_some, Nat.reduceLeDiff, Nat.zero_lt_succ, List.map_cons, List.map_nil, List.nil_append, List.cons_append, List.append_nil, bytesOf, List.take_succ_cons, List.take_zero, List.drop_zero, and_self, List.append_assoc, List.length_append, Int.reduceLT, Int.reduceLE, Int.toNat_zero, Int.reduceToNat, Int.cast_ofNat_Int, Int.natCast_zero, Int.natCast_one, Int.reduceAdd, List.map_append, Option.bind_some, h14]
        exact cont seen named todo' g H3 h3 (hp.done (fun y hy => by
          rw [hx] at hy; cases hy
          exact ⟨fun o => by omega, fun f => by unfold falls at f; omega, fun o => by omega, fun o => by omega⟩)) hg (Nat.le_refl _)
      by_cases h15 : x.op = 15
      · simp only [go_sem, Nat.reduceEqDiff, reduceIte, ↓reduceIte, Nat.reduceAdd, List.replicate_succ, List.replicate_zero, List.set_cons_zero, List.set_cons_succ, List.length_cons, List.length_nil, Nat.reduceLT, Nat.lt_add_one, ne_eq, Int.reduceEq, not_false_eq_true, Option.map_some, Nat.reduceLeDiff, Nat.zero_lt_succ, List.map_cons, List.map_nil, List.nil_append, List.cons_append, List.append_nil, bytesOf, List.take_succ_cons, List.take_zero, List.drop_zero, and_self, List.append_assoc, List.length_append, Int.reduceLT, Int.reduceLE, Int.toNat_zero, Int.reduceToNat, Int.cast_ofNat_Int, Int.natCast_zero, Int.natCast_one, Int.reduceAdd, List.map_append, Option.bind_some, h15]
        exact cont seen named todo' g H3 h3 (hp.done (fun y hy => by
          rw [hx] at hy; cases hy
          exact ⟨fun o => by omega, fun f => by unfold falls at f; omega, fun o => by omega, fun o => by omega⟩)) hg (Nat.le_refl _)
      by_cases h12 : x.op = 12
      · obtain ⟨n0, n1⟩ := hw.jump a x hx (.inl h12)
        simp only [go_sem, Nat.reduceEqDiff, reduceIte, ↓reduceIte, Nat.reduceAdd, List.replicate_succ, List.replicate_zero, List.set_cons_zero, List.set_cons_succ, List.length_cons, List.length_nil, Nat.reduceLT, Nat.lt_add_one, ne_eq, Int.reduceEq, not_false_eq_true, Option.map_some, Nat.reduceLeDiff, Nat.zero_lt_succ, List.map_cons, List.map_nil, List.nil_append, List.cons_append, List.append_nil, bytesOf, List.take_succ_cons, List.take_zero, List.drop_zero, and_self, List.append_assoc, List.length_append, Int.reduceLT, Int.reduceLE, Int.toNat_zero, Int.reduceToNat, Int.cast_ofNat_Int, Int.natCast_zero, Int.natCast_one, Int.reduceAdd, List.map_append, Option.bind_some, h12, h3.r7, b1]
        refine (implMark h3 hp (by omega) n0 n1 (.jump a x hra hx (.inl h12))).mono ?_
        rintro r H4 ⟨seen4, todo4, h4, hm4, k4⟩
        simp only [go_sem, Nat.reduceEqDiff, reduceIte, ↓reduceIte, Nat.reduceAdd, List.replicate_succ, List.replicate_zero, List.set_cons_zero, List.set_cons_succ, List.length_cons, List.length_nil, Nat.reduceLT, Nat.lt_add_one, ne_eq, Int.reduceEq, not_false_eq_true, Option.map_some, Nat.reduceLeDiff, Nat.zero_lt_succ, List.map_cons, List.map_nil, List.nil_append, List.cons_append, List.append_nil, bytesOf, List.take_succ_cons, List.take_zero, List.drop_zero, and_self, List.append_assoc, List.length_append, Int.reduceLT, Int.reduceLE, Int.toNat_zero, Int.reduceToNat, Int.cast_ofNat_Int, Int.natCast_zero, Int.natCast_one, Int.reduceAdd, List.map_append, Option.bind_some]
        exact cont seen4 named todo4 g H4 h4 (hm4.inv.done (fun y hy => by
          rw [hx] at hy; cases hy
          exact ⟨fun _ => hm4.at', fun f => by unfold falls at f; omega, fun o => by omega, fun o => by omega⟩)) (hg.mono hm4.mono) hm4.cnt
      have hfall : falls x.op := ⟨h12, h13, h14, h15⟩
      have hnx := hw.next a x hx hfall
      -- the mark of the next place
      have last : ∀ (seen5 named5 : List Bool) (todo5 : List Nat) (H5 : List AO), IS c H5 seen5 named5 todo5 g → Inv c (fun k => k = a) seen5 named5 todo5 g → Gd c seen5 named5 g c.starts.length → cnt seen5 todo5 ≤ cnt seen todo' → ((x.op = 12 ∨ x.op = 11) → seen5[x.n.toNat]? = some true) → (x.op = 3 → named5[x.n.toNat]? = some true) →
          ACall Try.prog 82 [.p (.i .i64 ((a + 1 : Nat) : Int)), .ptr 2 0, .ptr 6 0] H5 (fun r H' => ∃ seen6 todo6, IS c H' seen6 named5 todo6 g ∧ Inv c (fun _ => False) seen6 named5 todo6 g ∧ Gd c seen6 named5 g c.starts.length ∧ cnt seen6 todo6 ≤ cnt seen todo') := by
        intro seen5 named5 todo5 H5 q1 q2 q3 q4 q5 q6
        refine (implMark q1 q2 (by omega) (n := ((a + 1 : Nat) : Int)) (by omega) (by rw [Int.toNat_natCast]; exact hnx) (by rw [Int.toNat_natCast]; exact .next a x hra hx hfall)).mono ?_
        rintro r' H6 ⟨seen6, todo6, h6, hm6, k6⟩
        have h6a := hm6.at'
        rw [Int.toNat_natCast] at h6a
        exact ⟨seen6, todo6, h6, hm6.inv.done (fun y hy => by
          rw [hx] at hy; cases hy
          exact ⟨fun o => hm6.mono _ (q5 o), fun _ => h6a, fun o => by omega, fun o => q6 o⟩), q3.mono hm6.mono, Nat.le_trans hm6.cnt q4⟩
      by_cases h3' : x.op = 3
      · obtain ⟨n0, n1⟩ := hw.lab a x hx h3'
        have hnn : x.n.toNat < named.length := by rw [hp.ln]; exact n1
        simp only [go_sem, Nat.reduceEqDiff, reduceIte, ↓reduceIte, Nat.reduceAdd, List.replicate_succ, List.replicate_zero, List.set_cons_zero, List.set_cons_succ, List.length_cons, List.length_nil, Nat.reduceLT, Nat.lt_add_one, ne_eq, Int.reduceEq, not_false_eq_true, Option.map_some, Nat.reduceLeDiff, Nat.zero_lt_succ, List.map_cons, List.map_nil, List.nil_append, List.cons_append, List.append_nil, bytesOf, List.take_succ_cons, List.take_zero, List.drop_zero, and_self, List.append_assoc, List.length_append, Int.reduceLT, Int.reduceLE, Int.toNat_zero, Int.reduceToNat, Int.cast_ofNat_Int, Int.natCast_zero, Int.natCast_one, Int.reduceAdd, List.map_append, Option.bind_some, h3', h3.n4, b1, h3.n3]
        refine ⟨n0, by omega, ?_⟩
        rw [stoR_at (boolR_at hnn) rfl, boolR_set]
        simp only [go_sem, Nat.reduceEqDiff, reduceIte, ↓reduceIte, Nat.reduceAdd, List.replicate_succ, List.replicate_zero, List.set_cons_zero, List.set_cons_succ, List.length_cons, List.length_nil, Nat.reduceLT, Nat.lt_add_one, ne_eq, Int.reduceEq, not_false_eq_true, Option.map_some, Nat.reduceLeDiff, Nat.zero_lt_succ, List.map_cons, List.map_nil, List.nil_append, List.cons_append, List.append_nil, bytesOf, List.take_succ_cons, List.take_zero, List.drop_zero, and_self, List.append_assoc, List.length_append, Int.reduceLT, Int.reduceLE, Int.toNat_zero, Int.reduceToNat, Int.cast_ofNat_Int, Int.natCast_zero, Int.natCast_one, Int.reduceAdd, List.map_append, Option.bind_some]
        refine (implStarts hw (h3.named x.n.toNat) (hp.named hra hx h3') (by omega)).mono ?_
        rintro r H4 ⟨seen4, todo4, h4, hv4, hm4, hc4, hg4, k4⟩
        have b4 := k4.1 H2.length _ (get_set b1 (by omega)) (by omega)
        simp only [go_sem, Nat.reduceEqDiff, reduceIte, ↓reduceIte, Nat.reduceAdd, List.replicate_succ, List.replicate_zero, List.set_cons_zero, List.set_cons_succ, List.length_cons, List.length_nil, Nat.reduceLT, Nat.lt_add_one, ne_eq, Int.reduceEq, not_false_eq_true, Option.map_some, Nat.reduceLeDiff, Nat.zero_lt_succ, List.map_cons, List.map_nil, List.nil_append, List.cons_append, List.append_nil, bytesOf, List.take_succ_cons, List.take_zero, List.drop_zero, and_self, List.append_assoc, List.length_append, Int.reduceLT, Int.reduceLE, Int.toNat_zero, Int.reduceToNat, Int.cast_ofNat_Int, Int.natCast_zero, Int.natCast_one, Int.reduceAdd, List.map_append, Option.bind_some, b4, h3', h4.r7]
        rw [i1]
        refine (last seen4 _ todo4 H4 h4 hv4 hg4 hc4 (fun o => by omega) (fun _ => set_at hnn)).mono ?_
        rintro r' H5 ⟨seen5, todo5, q1, q2, q3, q4⟩
        simp only [go_sem, Nat.reduceEqDiff, reduceIte, ↓reduceIte, Nat.reduceAdd, List.replicate_succ, List.replicate_zero, List.set_cons_zero, List.set_cons_succ, List.length_cons, List.length_nil, Nat.reduceLT, Nat.lt_add_one, ne_eq, Int.reduceEq, not_false_eq_true, Option.map_some, Nat.reduceLeDiff, Nat.zero_lt_succ, List.map_cons, List.map_nil, List.nil_append, List.cons_append, List.append_nil, bytesOf, List.take_succ_cons, List.take_zero, List.drop_zero, and_self, List.append_assoc, List.length_append, Int.reduceLT, Int.reduceLE, Int.toNat_zero, Int.reduceToNat, Int.cast_ofNat_Int, Int.natCast_zero, Int.natCast_one, Int.reduceAdd, List.map_append, Option.bind_some]
        exact cont seen5 _ todo5 g H5 q1 q2 q3 q4
      by_cases h11 : x.op = 11
      · obtain ⟨n0, n1⟩ := hw.jump a x hx (.inr h11)
        simp only [go_sem, Nat.reduceEqDiff, reduceIte, ↓reduceIte, Nat.reduceAdd, List.replicate_succ, List.replicate_zero, List.set_cons_zero, List.set_cons_succ, List.length_cons, List.length_nil, Nat.reduceLT, Nat.lt_add_one, ne_eq, Int.reduceEq, not_false_eq_true, Option.map_some, Nat.reduceLeDiff, Nat.zero_lt_succ, List.map_cons, List.map_nil, List.nil_append, List.cons_append, List.append_nil, bytesOf, List.take_succ_cons, List.take_zero, List.drop_zero, and_self, List.append_assoc, List.length_append, Int.reduceLT, Int.reduceLE, Int.toNat_zero, Int.reduceToNat, Int.cast_ofNat_Int, Int.natCast_zero, Int.natCast_one, Int.reduceAdd, List.map_append, Option.bind_some, h11, b1, h3.r7]
        refine (implMark h3 hp (by omega) n0 n1 (.jump a x hra hx (.inr h11))).mono ?_
        rintro r H4 ⟨seen4, todo4, h4, hm4, k4⟩
        simp only [go_sem, Nat.reduceEqDiff, reduceIte, ↓reduceIte, Nat.reduceAdd, List.replicate_succ, List.replicate_zero, List.set_cons_zero, List.set_cons_succ, List.length_cons, List.length_nil, Nat.reduceLT, Nat.lt_add_one, ne_eq, Int.reduceEq, not_false_eq_true, Option.map_some, Nat.reduceLeDiff, Nat.zero_lt_succ, List.map_cons, List.map_nil, List.nil_append, List.cons_append, List.append_nil, bytesOf, List.take_succ_cons, List.take_zero, List.drop_zero, and_self, List.append_assoc, List.length_append, Int.reduceLT, Int.reduceLE, Int.toNat_zero, Int.reduceToNat, Int.cast_ofNat_Int, Int.natCast_zero, Int.natCast_one, Int.reduceAdd, List.map_append, Option.bind_some, h4.r7]
        rw [i1]
        refine (last seen4 named todo4 H4 h4 hm4.inv (hg.mono hm4.mono) hm4.cnt (fun _ => hm4.at') (fun o => by omega)).mono ?_
        rintro r' H5 ⟨seen5, todo5, q1, q2, q3, q4⟩
        simp only [go_sem, Nat.reduceEqDiff, reduceIte, ↓reduceIte, Nat.reduceAdd, List.replicate_succ, List.replicate_zero, List.set_cons_zero, List.set_cons_succ, List.length_cons, List.length_nil, Nat.reduceLT, Nat.lt_add_one, ne_eq, Int.reduceEq, not_false_eq_true, Option.map_some, Nat.reduceLeDiff, Nat.zero_lt_succ, List.map_cons, List.map_nil, List.nil_append, List.cons_append, List.append_nil, bytesOf, List.take_succ_cons, List.take_zero, List.drop_zero, and_self, List.append_assoc, List.length_append, Int.reduceLT, Int.reduceLE, Int.toNat_zero, Int.reduceToNat, Int.cast_ofNat_Int, Int.natCast_zero, Int.natCast_one, Int.reduceAdd, List.map_append, Option.bind_some]
        exact cont seen5 _ todo5 g H5 q1 q2 q3 q4
      · simp only [go_sem, Nat.reduceEqDiff, reduceIte, ↓reduceIte, Nat.reduceAdd, List.replicate_succ, List.replicate_zero, List.set_cons_zero, List.set_cons_succ, List.length_cons, List.length_nil, Nat.reduceLT, Nat.lt_add_one, ne_eq, Int.reduceEq, not_false_eq_true, Option.map_some, Nat.reduceLeDiff, Nat.zero_lt_succ, List.map_cons, List.map_nil, List.nil_append, List.cons_append, List.append_nil, bytesOf, List.take_succ_cons, List.take_zero, List.drop_zero, and_self, List.append_assoc, List.length_append, Int.reduceLT, Int.reduceLE, Int.toNat_zero, Int.reduceToNat, Int.cast_ofNat_Int, Int.natCast_zero, Int.natCast_one, Int.reduceAdd, List.map_append, Option.bind_some, h13, h14, h15, h12, h3', h11, b1, h3.r7]
        rw [i1]
        refine (last seen named todo' H3 h3 hp hg (Nat.le_refl _) (fun o => by omega) (fun o => by omega)).mono ?_
        rintro r' H5 ⟨seen5, todo5, q1, q2, q3, q4⟩
        simp only [go_sem, Nat.reduceEqDiff, reduceIte, ↓reduceIte, Nat.reduceAdd, List.replicate_succ, List.replicate_zero, List.set_cons_zero, List.set_cons_succ, List.length_cons, List.length_nil, Nat.reduceLT, Nat.lt_add_one, ne_eq, Int.reduceEq, not_false_eq_true, Option.map_some, Nat.reduceLeDiff, Nat.zero_lt_succ, List.map_cons, List.map_nil, List.nil_append, List.cons_append, List.append_nil, bytesOf, List.take_succ_cons, List.take_zero, List.drop_zero, and_self, List.append_assoc, List.length_append, Int.reduceLT, Int.reduceLE, Int.toNat_zero, Int.reduceToNat, Int.cast_ofNat_Int, Int.natCast_zero, Int.natCast_one, Int.reduceAdd, List.map_append, Option.bind_some]
        exact cont seen5 _ todo5 g H5 q1 q2 q3 q4
    · have ht : todo = [] := by
        cases todo with
        | nil => rfl
        | cons a l => simp at hd
      simp only [go_sem, Nat.reduceEqDiff, reduceIte, ↓reduceIte, Nat.reduceAdd, List.replicate_succ, List.replicate_zero, List.set_cons_zero, List.set_cons_succ, List.length_cons, List.length_nil, Nat.reduceLT, Nat.lt_add_one, ne_eq, Int.reduceEq, not_false_eq_true, Option.map_some, Nat.reduceLeDiff, Nat.zero_lt_succ, List.map_cons, List.map_nil, List.nil_append, List.cons_append, List.append_nil, bytesOf, List.take_succ_cons, List.take_zero, List.drop_zero, and_self, List.append_assoc, List.length_append, Int.reduceLT, Int.reduceLE, Int.toNat_zero, Int.reduceToNat, Int.cast_ofNat_Int, Int.natCast_zero, Int.natCast_one, Int.reduceAdd, List.map_append, Option.bind_some, h.o2]
      exact fin ht
end Go.Proofs.Ytmbggdfceecojaa.Cd

/- Images of codes: short numbers and sums, by both. -/
set_option linter.all false
namespace Go.Proofs.Ytmbggdfceecojaa.Cd
open Go.AM Mc Ho

theorem turned (n : Int) (h1 : -9223372036854775808 ≤ n) (h2 : n ≤ 9223372036854775807) : ACall Try.prog 135 [.p (.i .i64 n)] [] (fun r H' => r = .p (.i .u64 (zig n))) := by
  refine call135 (by simp) ?_
  simp only [go_sem, Nat.reduceEqDiff, reduceIte, ↓reduceIte, Nat.reduceAdd, List.replicate_succ, List.replicate_zero, List.set_cons_zero, List.set_cons_succ, List.length_cons, List.length_nil, Nat.reduceLT, Nat.lt_add_one, ne_eq, Int.reduceEq, not_false_eq_true, Option.map_some, Nat.reduceLeDiff, Nat.zero_lt_succ, List.map_cons, List.map_nil, List.nil_append, List.cons_append, List.append_nil, bytesOf, List.take_succ_cons, List.take_zero, List.drop_zero, and_self, List.append_assoc, List.length_append, Int.reduceLT, Int.reduceLE, Int.toNat_zero, Int.reduceToNat, Int.cast_ofNat_Int, Int.natCast_zero, Int.natCast_one, Int.reduceAdd, List.map_append, Option.bind_some, mc135, mr135, shl1, shr63]
  congr 2
  have hx : wr .u64 (wr .u64 n * 2) = (2 * n) % 18446744073709551616 := by rw [wr_u64, wr_u64]; omega
  rw [hx]
  by_cases h : 0 ≤ n
  · have e : n.fdiv 9223372036854775808 = 0 := by rw [shr_nn h _ (by omega)]; omega
    rw [e, wr_u64, show (0 : Int) % 18446744073709551616 = 0 from rfl, xor_u64_zero (by omega) (by omega)]
    unfold zig
    rw [if_pos h]; omega
  · have e : n.fdiv 9223372036854775808 = -1 := by
      have h3 : n.fdiv 9223372036854775808 = n / 9223372036854775808 := by
        rw [Int.fdiv_eq_ediv_of_nonneg n (by omega)]
      rw [h3]; omega
    rw [e, wr_u64, show (-1 : Int) % 18446744073709551616 = 18446744073709551615 from rfl, xor_u64_ones (by omega) (by omega)]
    unfold zig
    rw [if_neg h]; omega

theorem byte_or {x : Nat} (h : x < 18446744073709551616) : ibits .or .u8 (wr .u8 (ibits .and .u64 x 127)) 128 = ((x % 128 + 128 : Nat) : Int) := by
  rw [and_u64_127 (by omega) (by omega), wr_u8, or_u8_128 (by omega) (by omega)]; omega

theorem putShortI0 (n : Int) (h1 : -9223372036854775808 ≤ n) (h2 : n ≤ 9223372036854775807) : ACall Try.prog 76 [.p (.i .i64 n)] [] (fun r H' => OwnR H' r 1 (intR .u8 (enc (zig n)))) := by
  have hz := zig_lt h1 h2
  have hl := enc10 h1 h2
  refine call76 (by simp) ?_
  simp only [go_sem, Nat.reduceEqDiff, reduceIte, ↓reduceIte, Nat.reduceAdd, List.replicate_succ, List.replicate_zero, List.set_cons_zero, List.set_cons_succ, List.length_cons, List.length_nil, Nat.reduceLT, Nat.lt_add_one, ne_eq, Int.reduceEq, not_false_eq_true, Option.map_some, Nat.reduceLeDiff, Nat.zero_lt_succ, List.map_cons, List.map_nil, List.nil_append, List.cons_append, List.append_nil, bytesOf, List.take_succ_cons, List.take_zero, List.drop_zero, and_self, List.append_assoc, List.length_append, Int.reduceLT, Int.reduceLE, Int.toNat_zero, Int.reduceToNat, Int.cast_ofNat_Int, Int.natCast_zero, Int.natCast_one, Int.reduceAdd, List.map_append, Option.bind_some, mc76, mr76]
  refine (turned n h1 h2).mono ?_
  rintro r H' rfl
  simp only [go_sem, Nat.reduceEqDiff, reduceIte, ↓reduceIte, Nat.reduceAdd, List.replicate_succ, List.replicate_zero, List.set_cons_zero, List.set_cons_succ, List.length_cons, List.length_nil, Nat.reduceLT, Nat.lt_add_one, ne_eq, Int.reduceEq, not_false_eq_true, Option.map_some, Nat.reduceLeDiff, Nat.zero_lt_succ, List.map_cons, List.map_nil, List.nil_append, List.cons_append, List.append_nil, bytesOf, List.take_succ_cons, List.take_zero, List.drop_zero, and_self, List.append_assoc, List.length_append, Int.reduceLT, Int.reduceLE, Int.toNat_zero, Int.reduceToNat, Int.cast_ofNat_Int, Int.natCast_zero, Int.natCast_one, Int.reduceAdd, List.map_append, Option.bind_some]
  refine ⟨Nat × List Int × AV × List AO, [0, 2, 3, 4], fun x st => x.1 < 18446744073709551616 ∧ x.2.1 ++ enc x.1 = enc (zig n) ∧ OwnR x.2.2.2 x.2.2.1 1 (intR .u8 x.2.1) ∧ st = ⟨[(0, .p (.i .i64 n)), (2, .p .nl), (3, x.2.2.1), (4, .p (.i .u64 x.1))], [], x.2.2.2⟩, fun x => x.1, ⟨⟨zig n, [], .p .nl, H'⟩, ?_⟩, ?_⟩
  · simp only [go_sem, Nat.reduceEqDiff, reduceIte, ↓reduceIte, Nat.reduceAdd, List.replicate_succ, List.replicate_zero, List.set_cons_zero, List.set_cons_succ, List.length_cons, List.length_nil, Nat.reduceLT, Nat.lt_add_one, ne_eq, Int.reduceEq, not_false_eq_true, Option.map_some, Nat.reduceLeDiff, Nat.zero_lt_succ, List.map_cons, List.map_nil, List.nil_append, List.cons_append, List.append_nil, bytesOf, List.take_succ_cons, List.take_zero, List.drop_zero, and_self, List.append_assoc, List.length_append, Int.reduceLT, Int.reduceLE, Int.toNat_zero, Int.reduceToNat, Int.cast_ofNat_Int, Int.natCast_zero, Int.natCast_one, Int.reduceAdd, List.map_append, Option.bind_some]
    exact ⟨hz, .inl ⟨rfl, rfl⟩⟩
  · rintro ⟨x, bs, a, H⟩ st ⟨hx, he, ho, rfl⟩
    simp only at hx he ho
    have hbl : bs.length ≤ 10 := by rw [← he] at hl; simp at hl; omega
    simp only [go_sem, Nat.reduceEqDiff, reduceIte, ↓reduceIte, Nat.reduceAdd, List.replicate_succ, List.replicate_zero, List.set_cons_zero, List.set_cons_succ, List.length_cons, List.length_nil, Nat.reduceLT, Nat.lt_add_one, ne_eq, Int.reduceEq, not_false_eq_true, Option.map_some, Nat.reduceLeDiff, Nat.zero_lt_succ, List.map_cons, List.map_nil, List.nil_append, List.cons_append, List.append_nil, bytesOf, List.take_succ_cons, List.take_zero, List.drop_zero, and_self, List.append_assoc, List.length_append, Int.reduceLT, Int.reduceLE, Int.toNat_zero, Int.reduceToNat, Int.cast_ofNat_Int, Int.natCast_zero, Int.natCast_one, Int.reduceAdd, List.map_append, Option.bind_some]
    refine condK_split _ (fun hd => ?_) (fun hd => ?_)
    · have hd' : ¬ x < 128 := by simp at hd; omega
      simp only [go_sem, Nat.reduceEqDiff, reduceIte, ↓reduceIte, Nat.reduceAdd, List.replicate_succ, List.replicate_zero, List.set_cons_zero, List.set_cons_succ, List.length_cons, List.length_nil, Nat.reduceLT, Nat.lt_add_one, ne_eq, Int.reduceEq, not_false_eq_true, Option.map_some, Nat.reduceLeDiff, Nat.zero_lt_succ, List.map_cons, List.map_nil, List.nil_append, List.cons_append, List.append_nil, bytesOf, List.take_succ_cons, List.take_zero, List.drop_zero, and_self, List.append_assoc, List.length_append, Int.reduceLT, Int.reduceLE, Int.toNat_zero, Int.reduceToNat, Int.cast_ofNat_Int, Int.natCast_zero, Int.natCast_one, Int.reduceAdd, List.map_append, Option.bind_some]
      rw [byte_or hx]
      refine ⟨by simp, app_own ho.ext (by simp [intR_len]; omega) (by simp [intR_len]; omega) fun a' H' ho' _ _ => ?_⟩
      simp only [go_sem, Nat.reduceEqDiff, reduceIte, ↓reduceIte, Nat.reduceAdd, List.replicate_succ, List.replicate_zero, List.set_cons_zero, List.set_cons_succ, List.length_cons, List.length_nil, Nat.reduceLT, Nat.lt_add_one, ne_eq, Int.reduceEq, not_false_eq_true, Option.map_some, Nat.reduceLeDiff, Nat.zero_lt_succ, List.map_cons, List.map_nil, List.nil_append, List.cons_append, List.append_nil, bytesOf, List.take_succ_cons, List.take_zero, List.drop_zero, and_self, List.append_assoc, List.length_append, Int.reduceLT, Int.reduceLE, Int.toNat_zero, Int.reduceToNat, Int.cast_ofNat_Int, Int.natCast_zero, Int.natCast_one, Int.reduceAdd, List.map_append, Option.bind_some, shr7]
      rw [shr_nn (by omega) _ (by omega)]
      have hq : ((x : Int) / 128) = ((x / 128 : Nat) : Int) := by omega
      rw [hq]
      refine ⟨⟨x / 128, bs ++ [((x % 128 + 128 : Nat) : Int)], a', H'⟩, ⟨by simp only; omega, ?_, ?_, rfl⟩, by simp only; omega⟩
      · rw [← he, enc_ge hd']; simp
      · rw [← intR_app]; exact ho'
    · have hd' : x < 128 := by simp at hd; omega
      simp only [go_sem, Nat.reduceEqDiff, reduceIte, ↓reduceIte, Nat.reduceAdd, List.replicate_succ, List.replicate_zero, List.set_cons_zero, List.set_cons_succ, List.length_cons, List.length_nil, Nat.reduceLT, Nat.lt_add_one, ne_eq, Int.reduceEq, not_false_eq_true, Option.map_some, Nat.reduceLeDiff, Nat.zero_lt_succ, List.map_cons, List.map_nil, List.nil_append, List.cons_append, List.append_nil, bytesOf, List.take_succ_cons, List.take_zero, List.drop_zero, and_self, List.append_assoc, List.length_append, Int.reduceLT, Int.reduceLE, Int.toNat_zero, Int.reduceToNat, Int.cast_ofNat_Int, Int.natCast_zero, Int.natCast_one, Int.reduceAdd, List.map_append, Option.bind_some]
      rw [byte_lo hd']
      refine ⟨by simp, app_own ho.ext (by simp [intR_len]; omega) (by simp [intR_len]; omega) fun a' H' ho' _ _ => ?_⟩
      simp only [go_sem, Nat.reduceEqDiff, reduceIte, ↓reduceIte, Nat.reduceAdd, List.replicate_succ, List.replicate_zero, List.set_cons_zero, List.set_cons_succ, List.length_cons, List.length_nil, Nat.reduceLT, Nat.lt_add_one, ne_eq, Int.reduceEq, not_false_eq_true, Option.map_some, Nat.reduceLeDiff, Nat.zero_lt_succ, List.map_cons, List.map_nil, List.nil_append, List.cons_append, List.append_nil, bytesOf, List.take_succ_cons, List.take_zero, List.drop_zero, and_self, List.append_assoc, List.length_append, Int.reduceLT, Int.reduceLE, Int.toNat_zero, Int.reduceToNat, Int.cast_ofNat_Int, Int.natCast_zero, Int.natCast_one, Int.reduceAdd, List.map_append, Option.bind_some]
      rw [← he, enc_lt hd', ← intR_app]
      exact ho'

theorem putShortI (n : Int) (h1 : -9223372036854775808 ≤ n) (h2 : n ≤ 9223372036854775807) {H : List AO} : ACall Try.prog 76 [.p (.i .i64 n)] H (fun r H' => H' = H ∧ r = .p (.l (rowsK .u8 (enc (zig n))))) :=
  acall_fresh (putShortI0 n h1 h2) (by simp; exact noid_p _) (fun r H' h => ⟨_, own_lent h, rfl⟩)

theorem shr8 (x : Int) : x.fdiv (2 ^ min 8 64) = x.fdiv 256 := by simp
theorem shr16 (x : Int) : x.fdiv (2 ^ min 16 64) = x.fdiv 65536 := by simp
theorem shr24 (x : Int) : x.fdiv (2 ^ min 24 64) = x.fdiv 16777216 := by simp
/-- the sum of bytes -/
def sumSt : List Int → Int × Int → Int × Int
  | [], p => p
  | b :: bs, p => sumSt bs ((p.1 + b) % 65521, (p.2 + (p.1 + b) % 65521) % 65521)
def sumB (bs : List Int) : List Int := [(sumSt bs (1, 0)).1 % 256, (sumSt bs (1, 0)).1 / 256, (sumSt bs (1, 0)).2 % 256, (sumSt bs (1, 0)).2 / 256]
theorem sumSt_app (a b : List Int) (p) : sumSt (a ++ b) p = sumSt b (sumSt a p) := by
  induction a generalizing p with
  | nil => rfl
  | cons x a ih => exact ih _
theorem sumSt_take {bs : List Int} {i : Nat} (h : i < bs.length) (p) : sumSt (bs.take (i + 1)) p = (((sumSt (bs.take i) p).1 + bs[i]) % 65521, ((sumSt (bs.take i) p).2 + ((sumSt (bs.take i) p).1 + bs[i]) % 65521) % 65521) := by
  rw [List.take_succ, sumSt_app, List.getElem?_eq_getElem h]; rfl
theorem sumSt_rng {bs : List Int} : ∀ (p : Int × Int), (0 ≤ p.1 ∧ p.1 < 65521 ∧ 0 ≤ p.2 ∧ p.2 < 65521) → 0 ≤ (sumSt bs p).1 ∧ (sumSt bs p).1 < 65521 ∧ 0 ≤ (sumSt bs p).2 ∧ (sumSt bs p).2 < 65521 := by
  induction bs with
  | nil => exact fun p h => h
  | cons b bs ih => exact fun p h => ih _ (by simp only; omega)
def isB (bs : List Int) : Prop := ∀ b ∈ bs, 0 ≤ b ∧ b < 256

theorem l20Sum0 (bs : List Int) (hb : isB bs) (hl : bs.length ≤ maxL) : ACall Try.prog 72 [.p (.l (rowsK .u8 bs))] [] (fun r H' => OwnR H' r 1 (intR .u8 (sumB bs))) := by
  refine call72 (by simp) ?_
  simp only [go_sem, Nat.reduceEqDiff, reduceIte, ↓reduceIte, Nat.reduceAdd, List.replicate_succ, List.replicate_zero, List.set_cons_zero, List.set_cons_succ, List.length_cons, List.length_nil, Nat.reduceLT, Nat.lt_add_one, ne_eq, Int.reduceEq, not_false_eq_true, Option.map_some, Nat.reduceLeDiff, Nat.zero_lt_succ, List.map_cons, List.map_nil, List.nil_append, List.cons_append, List.append_nil, bytesOf, List.take_succ_cons, List.take_zero, List.drop_zero, and_self, List.append_assoc, List.length_append, Int.reduceLT, Int.reduceLE, Int.toNat_zero, Int.reduceToNat, Int.cast_ofNat_Int, Int.natCast_zero, Int.natCast_one, Int.reduceAdd, List.map_append, Option.bind_some, mc72, mr72, rowsK_len]
  refine ⟨Nat, [0, 2, 3, 4, 5], fun i st => i ≤ bs.length ∧ st = ⟨[(0, .p (.l (rowsK .u8 bs))), (2, .p .nl), (3, .p (.i .i64 (sumSt (bs.take i) (1, 0)).1)), (4, .p (.i .i64 (sumSt (bs.take i) (1, 0)).2)), (5, .p (.i .i64 i))], [], []⟩, fun i => bs.length - i, ⟨0, ?_⟩, ?_⟩
  · simp only [go_sem, Nat.reduceEqDiff, reduceIte, ↓reduceIte, Nat.reduceAdd, List.replicate_succ, List.replicate_zero, List.set_cons_zero, List.set_cons_succ, List.length_cons, List.length_nil, Nat.reduceLT, Nat.lt_add_one, ne_eq, Int.reduceEq, not_false_eq_true, Option.map_some, Nat.reduceLeDiff, Nat.zero_lt_succ, List.map_cons, List.map_nil, List.nil_append, List.cons_append, List.append_nil, bytesOf, List.take_succ_cons, List.take_zero, List.drop_zero, and_self, List.append_assoc, List.length_append, Int.reduceLT, Int.reduceLE, Int.toNat_zero, Int.reduceToNat, Int.cast_ofNat_Int, Int.natCast_zero, Int.natCast_one, Int.reduceAdd, List.map_append, Option.bind_some]
    exact ⟨Nat.zero_le _, rfl⟩
  · rintro i st ⟨hi, rfl⟩
    obtain ⟨r1, r2, r3, r4⟩ := sumSt_rng (bs := bs.take i) (1, 0) (by simp only; omega)
    simp only [go_sem, Nat.reduceEqDiff, reduceIte, ↓reduceIte, Nat.reduceAdd, List.replicate_succ, List.replicate_zero, List.set_cons_zero, List.set_cons_succ, List.length_cons, List.length_nil, Nat.reduceLT, Nat.lt_add_one, ne_eq, Int.reduceEq, not_false_eq_true, Option.map_some, Nat.reduceLeDiff, Nat.zero_lt_succ, List.map_cons, List.map_nil, List.nil_append, List.cons_append, List.append_nil, bytesOf, List.take_succ_cons, List.take_zero, List.drop_zero, and_self, List.append_assoc, List.length_append, Int.reduceLT, Int.reduceLE, Int.toNat_zero, Int.reduceToNat, Int.cast_ofNat_Int, Int.natCast_zero, Int.natCast_one, Int.reduceAdd, List.map_append, Option.bind_some, rowsK_len]
    intro _
    refine condK_split _ (fun hd => ?_) (fun hd => ?_)
    · have hil : i < bs.length := by simpa using hd
      have hbi := hb _ (List.getElem_mem hil)
      simp only [go_sem, Nat.reduceEqDiff, reduceIte, ↓reduceIte, Nat.reduceAdd, List.replicate_succ, List.replicate_zero, List.set_cons_zero, List.set_cons_succ, List.length_cons, List.length_nil, Nat.reduceLT, Nat.lt_add_one, ne_eq, Int.reduceEq, not_false_eq_true, Option.map_some, Nat.reduceLeDiff, Nat.zero_lt_succ, List.map_cons, List.map_nil, List.nil_append, List.cons_append, List.append_nil, bytesOf, List.take_succ_cons, List.take_zero, List.drop_zero, and_self, List.append_assoc, List.length_append, Int.reduceLT, Int.reduceLE, Int.toNat_zero, Int.reduceToNat, Int.cast_ofNat_Int, Int.natCast_zero, Int.natCast_one, Int.reduceAdd, List.map_append, Option.bind_some, rowsK_at _ _ hil]
      rw [wr_i64 (n := bs[i]) (by omega) (by omega), wr_i64 (by omega) (by omega), Int.tmod_eq_emod_of_nonneg (by omega), wr_i64 (by omega) (by omega), Int.tmod_eq_emod_of_nonneg (by omega), wr1 hil hl]
      refine ⟨i + 1, ⟨hil, ?_⟩, by omega⟩
      rw [sumSt_take hil]
    · have hil : i = bs.length := by simp at hd; omega
      subst hil
      rw [List.take_length] at r1 r2 r3 r4 ⊢
      simp only [go_sem, Nat.reduceEqDiff, reduceIte, ↓reduceIte, Nat.reduceAdd, List.replicate_succ, List.replicate_zero, List.set_cons_zero, List.set_cons_succ, List.length_cons, List.length_nil, Nat.reduceLT, Nat.lt_add_one, ne_eq, Int.reduceEq, not_false_eq_true, Option.map_some, Nat.reduceLeDiff, Nat.zero_lt_succ, List.map_cons, List.map_nil, List.nil_append, List.cons_append, List.append_nil, bytesOf, List.take_succ_cons, List.take_zero, List.drop_zero, and_self, List.append_assoc, List.length_append, Int.reduceLT, Int.reduceLE, Int.toNat_zero, Int.reduceToNat, Int.cast_ofNat_Int, Int.natCast_zero, Int.natCast_one, Int.reduceAdd, List.map_append, Option.bind_some]
      refine .inr ⟨0, 0, rfl, ?_⟩
      simp only [List.getElem?_cons_zero, Option.some.injEq, AO.rows.injEq, true_and]
      rw [and_i64_255 (by omega) (by omega), and_i64_255 (by omega) (by omega), shr8, shr8, wr_u8, wr_u8, wr_u8, wr_u8, shr_nn (by omega) _ (by omega), shr_nn (by omega) _ (by omega)]
      unfold sumB
      generalize (sumSt bs (1, 0)).1 = p at *
      generalize (sumSt bs (1, 0)).2 = q at *
      simp only [intR, List.map_cons, List.map_nil]
      rw [show p % 256 % 256 = p % 256 by omega, show p / 256 % 256 = p / 256 by omega, show q % 256 % 256 = q % 256 by omega, show q / 256 % 256 = q / 256 by omega]

theorem sumOf0 (bs : List Int) (hb : isB bs) (hl : bs.length ≤ maxL) : ACall Try.prog 77 [.p (.l (rowsK .u8 bs))] [] (fun r H' => OwnR H' r 1 (intR .u8 (sumB bs))) := by
  refine call77 (by simp) ?_
  simp only [go_sem, Nat.reduceEqDiff, reduceIte, ↓reduceIte, Nat.reduceAdd, List.replicate_succ, List.replicate_zero, List.set_cons_zero, List.set_cons_succ, List.length_cons, List.length_nil, Nat.reduceLT, Nat.lt_add_one, ne_eq, Int.reduceEq, not_false_eq_true, Option.map_some, Nat.reduceLeDiff, Nat.zero_lt_succ, List.map_cons, List.map_nil, List.nil_append, List.cons_append, List.append_nil, bytesOf, List.take_succ_cons, List.take_zero, List.drop_zero, and_self, List.append_assoc, List.length_append, Int.reduceLT, Int.reduceLE, Int.toNat_zero, Int.reduceToNat, Int.cast_ofNat_Int, Int.natCast_zero, Int.natCast_one, Int.reduceAdd, List.map_append, Option.bind_some, mc77, mr77, rowsK_len]
  intro _
  refine ⟨Nat, [0, 2, 3, 4, 8, 9, 10], fun i st => i ≤ bs.length ∧ st = ⟨[(0, .p (.l (rowsK .u8 bs))), (2, .p .nl), (3, .p (.i .i64 (sumSt (bs.take i) (1, 0)).1)), (4, .p (.i .i64 (sumSt (bs.take i) (1, 0)).2)), (8, .p (.l (rowsK .u8 bs))), (9, .p (.i .i64 bs.length)), (10, .p (.i .i64 i))], [], []⟩, fun i => bs.length - i, ⟨0, ?_⟩, ?_⟩
  · simp only [go_sem, Nat.reduceEqDiff, reduceIte, ↓reduceIte, Nat.reduceAdd, List.replicate_succ, List.replicate_zero, List.set_cons_zero, List.set_cons_succ, List.length_cons, List.length_nil, Nat.reduceLT, Nat.lt_add_one, ne_eq, Int.reduceEq, not_false_eq_true, Option.map_some, Nat.reduceLeDiff, Nat.zero_lt_succ, List.map_cons, List.map_nil, List.nil_append, List.cons_append, List.append_nil, bytesOf, List.take_succ_cons, List.take_zero, List.drop_zero, and_self, List.append_assoc, List.length_append, Int.reduceLT, Int.reduceLE, Int.toNat_zero, Int.reduceToNat, Int.cast_ofNat_Int, Int.natCast_zero, Int.natCast_one, Int.reduceAdd, List.map_append, Option.bind_some]
    exact ⟨Nat.zero_le _, rfl⟩
  · rintro i st ⟨hi, rfl⟩
    obtain ⟨r1, r2, r3, r4⟩ := sumSt_rng (bs := bs.take i) (1, 0) (by simp only; omega)
    simp only [go_sem, Nat.reduceEqDiff, reduceIte, ↓reduceIte, Nat.reduceAdd, List.replicate_succ, List.replicate_zero, List.set_cons_zero, List.set_cons_succ, List.length_cons, List.length_nil, Nat.reduceLT, Nat.lt_add_one, ne_eq, Int.reduceEq, not_false_eq_true, Option.map_some, Nat.reduceLeDiff, Nat.zero_lt_succ, List.map_cons, List.map_nil, List.nil_append, List.cons_append, List.append_nil, bytesOf, List.take_succ_cons, List.take_zero, List.drop_zero, and_self, List.append_assoc, List.length_append, Int.reduceLT, Int.reduceLE, Int.toNat_zero, Int.reduceToNat, Int.cast_ofNat_Int, Int.natCast_zero, Int.natCast_one, Int.reduceAdd, List.map_append, Option.bind_some, rowsK_len]
    refine condK_split _ (fun hd => ?_) (fun hd => ?_)
    · have hil : i < bs.length := by simpa using hd
      have hbi := hb _ (List.getElem_mem hil)
      simp only [go_sem, Nat.reduceEqDiff, reduceIte, ↓reduceIte, Nat.reduceAdd, List.replicate_succ, List.replicate_zero, List.set_cons_zero, List.set_cons_succ, List.length_cons, List.length_nil, Nat.reduceLT, Nat.lt_add_one, ne_eq, Int.reduceEq, not_false_eq_true, Option.map_some, Nat.reduceLeDiff, Nat.zero_lt_succ, List.map_cons, List.map_nil, List.nil_append, List.cons_append, List.append_nil, bytesOf, List.take_succ_cons, List.take_zero, List.drop_zero, and_self, List.append_assoc, List.length_append, Int.reduceLT, Int.reduceLE, Int.toNat_zero, Int.reduceToNat, Int.cast_ofNat_Int, Int.natCast_zero, Int.natCast_one, Int.reduceAdd, List.map_append, Option.bind_some, rowsK_at _ _ hil]
      rw [wr_i64 (n := bs[i]) (by omega) (by omega), wr_i64 (by omega) (by omega), Int.tmod_eq_emod_of_nonneg (by omega), wr_i64 (by omega) (by omega), Int.tmod_eq_emod_of_nonneg (by omega), wr1 hil hl]
      refine ⟨i + 1, ⟨hil, ?_⟩, by omega⟩
      rw [sumSt_take hil]
    · have hil : i = bs.length := by simp at hd; omega
      subst hil
      rw [List.take_length] at r1 r2 r3 r4 ⊢
      simp only [go_sem, Nat.reduceEqDiff, reduceIte, ↓reduceIte, Nat.reduceAdd, List.replicate_succ, List.replicate_zero, List.set_cons_zero, List.set_cons_succ, List.length_cons, List.length_nil, Nat.reduceLT, Nat.lt_add_one, ne_eq, Int.reduceEq, not_false_eq_true, Option.map_some, Nat.reduceLeDiff, Nat.zero_lt_succ, List.map_cons, List.map_nil, List.nil_append, List.cons_append, List.append_nil, bytesOf, List.take_succ_cons, List.take_zero, List.drop_zero, and_self, List.append_assoc, List.length_append, Int.reduceLT, Int.reduceLE, Int.toNat_zero, Int.reduceToNat, Int.cast_ofNat_Int, Int.natCast_zero, Int.natCast_one, Int.reduceAdd, List.map_append, Option.bind_some]
      refine .inr ⟨0, 0, rfl, ?_⟩
      simp only [List.getElem?_cons_zero, Option.some.injEq, AO.rows.injEq, true_and]
      rw [wr_i64 (n := 65536 * _) (by omega) (by omega), wr_i64 (by omega) (by omega), shr8, shr16, shr24, wr_u8, wr_u8, wr_u8, wr_u8, shr_nn (by omega) _ (by omega), shr_nn (by omega) _ (by omega), shr_nn (by omega) _ (by omega)]
      unfold sumB
      generalize (sumSt bs (1, 0)).1 = p at *
      generalize (sumSt bs (1, 0)).2 = q at *
      simp only [intR, List.map_cons, List.map_nil]
      rw [show (65536 * q + p) % 256 = p % 256 by omega, show (65536 * q + p) / 256 % 256 = p / 256 by omega, show (65536 * q + p) / 65536 % 256 = q % 256 by omega, show (65536 * q + p) / 16777216 % 256 = q / 256 by omega]

theorem l20Sum (bs : List Int) (hb : isB bs) (hl : bs.length ≤ maxL) : ACall Try.prog 72 [.p (.l (rowsK .u8 bs))] [] (fun r H' => H' = [] ∧ r = .p (.l (rowsK .u8 (sumB bs)))) :=
  acall_fresh (l20Sum0 bs hb hl) (by simp; exact noid_p _) (fun r H' h => ⟨_, own_lent h, rfl⟩)
theorem sumOf (bs : List Int) (hb : isB bs) (hl : bs.length ≤ maxL) : ACall Try.prog 77 [.p (.l (rowsK .u8 bs))] [] (fun r H' => H' = [] ∧ r = .p (.l (rowsK .u8 (sumB bs)))) :=
  acall_fresh (sumOf0 bs hb hl) (by simp; exact noid_p _) (fun r H' h => ⟨_, own_lent h, rfl⟩)
end Go.Proofs.Ytmbggdfceecojaa.Cd

/- Images of codes: bytes compared and marked; what an image is. -/
set_option linter.all false
namespace Go.Proofs.Ytmbggdfceecojaa.Cd
open Go.AM Mc Ho

theorem eqByteS (xs ys : List Int) (hx : xs.length ≤ maxL) (hy : ys.length ≤ maxL) : ACall Try.prog 23 [.p (.l (rowsK .u8 xs)), .p (.l (rowsK .u8 ys))] [] (fun r H => r = .p (.b (decide (xs = ys)))) := by
  refine call23 (by simp) ?_
  simp only [go_sem, Nat.reduceEqDiff, reduceIte, ↓reduceIte, Nat.reduceAdd, mc23, mr23, rowsK_len]
  intro _ _
  refine condK_split _ (fun hc => ?_) (fun hc => ?_)
  · simp only [go_sem, Nat.reduceEqDiff, reduceIte, ↓reduceIte, Nat.reduceAdd]
    have : xs ≠ ys := by rintro rfl; simp at hc
    simp [this]
  · have hl : xs.length = ys.length := by simp at hc; omega
    simp only [go_sem, Nat.reduceEqDiff, reduceIte, ↓reduceIte, Nat.reduceAdd]
    refine ⟨Nat, [0, 1, 4, 5], fun i st => i ≤ xs.length ∧ xs.take i = ys.take i ∧ st = ⟨[(0, .p (.l (rowsK .u8 xs))), (1, .p (.l (rowsK .u8 ys))), (4, .p (.b false)), (5, .p (.i .i64 i))], [], []⟩, fun i => xs.length - i, ⟨0, ?_⟩, ?_⟩
    · simp only [go_sem, Nat.reduceEqDiff, reduceIte, ↓reduceIte, Nat.reduceAdd]
      exact ⟨Nat.zero_le _, rfl, rfl⟩
    · rintro i st ⟨hi, ht, rfl⟩
      simp only [go_sem, Nat.reduceEqDiff, reduceIte, ↓reduceIte, Nat.reduceAdd, rowsK_len]
      intro _
      refine condK_split _ (fun hc => ?_) (fun hc => ?_)
      · have hil : i < xs.length := by simpa using hc
        have hiy : i < ys.length := by omega
        simp only [go_sem, Nat.reduceEqDiff, reduceIte, ↓reduceIte, Nat.reduceAdd]
        (refine drw_same ?_; simp only [go_sem, Nat.reduceEqDiff, reduceIte, ↓reduceIte, Nat.reduceAdd, rowsK_at _ _ hil, rowsK_at _ _ hiy])
        refine condK_split _ (fun hd => ?_) (fun hd => ?_)
        · simp only [go_sem, Nat.reduceEqDiff, reduceIte, ↓reduceIte, Nat.reduceAdd]
          have : xs ≠ ys := by rintro rfl; simp at hd
          simp [this]
        · simp only [go_sem, Nat.reduceEqDiff, reduceIte, ↓reduceIte, Nat.reduceAdd]
          have he : xs[i] = ys[i] := by simpa using hd
          refine ⟨i + 1, ⟨hil, ?_, ?_⟩, by omega⟩
          · rw [List.take_succ, List.take_succ, ht, List.getElem?_eq_getElem hil, List.getElem?_eq_getElem hiy, he]
          · rw [wr1 hil hx]
      · have hil : i = xs.length := by simp at hc; omega
        simp only [go_sem, Nat.reduceEqDiff, reduceIte, ↓reduceIte, Nat.reduceAdd]
        subst hil
        have : xs = ys := by
          rw [List.take_length, hl, List.take_length] at ht
          exact ht
        simp [this]
theorem eqByteS_any (xs ys : List Int) (hx : xs.length ≤ maxL) (hy : ys.length ≤ maxL) {H : List AO} {a b : AV} (ha : Lent H a (.p (.l (rowsK .u8 xs)))) (hb : Lent H b (.p (.l (rowsK .u8 ys)))) : ACall Try.prog 23 [a, b] H (fun r H' => r = .p (.b (decide (xs = ys))) ∧ H' = H) :=
  (acall_lend (eqByteS xs ys hx hy) (fun r H' h => by subst h; exact grnd_b _) (lentAll_cons ha (lentAll_cons hb (lentAll_nil _)))).mono fun r H' ⟨h1, _, h2⟩ => ⟨h2, h1⟩

/-- the pattern that marks bytes -/
def pat (k : Int) (n : Nat) : List Int := (List.range n).map fun j => wr .u8 (k + (j : Nat))
theorem pat_len (k n) : (pat k n).length = n := by simp [pat]

theorem markByteS {H : List AO} {id ver : Nat} (old : List (List AV)) (hid : H[id]? = some (.rows 1 ver old)) (h1 : ∀ r ∈ old, r.length = 1) (hn : old.length ≤ 100000000) (k : Int) (hk0 : 0 ≤ k) (hk : k ≤ 100000000) :
    ACall Try.prog 26 [.gs id ver 0 old.length, .p (.i .i64 k)] H (fun r H' => r = .p (.i .i64 (k + old.length)) ∧ H' = H.set id (.rows 1 ver (intR .u8 (pat k old.length)))) := by
  have hm : old.length ≤ maxL := by unfold maxL; omega
  refine call26 (by simp) ?_
  simp only [go_sem, Nat.reduceEqDiff, reduceIte, ↓reduceIte, Nat.reduceAdd, mc26, mr26]
  refine ⟨Nat, [0, 1, 4, 5], fun i st => i ≤ old.length ∧ st = ⟨[(0, .gs id ver 0 old.length), (1, .p (.i .i64 (k + i))), (4, .p (.i .i64 0)), (5, .p (.i .i64 i))], [], H.set id (.rows 1 ver (over (fun j => [.p (.i .u8 (wr .u8 (k + j)))]) old i))⟩, fun i => old.length - i, ⟨0, ?_⟩, ?_⟩
  · simp only [go_sem, Nat.reduceEqDiff, reduceIte, ↓reduceIte, Nat.reduceAdd]
    refine ⟨Nat.zero_le _, ?_⟩
    rw [over_zero]
    rw [set_same hid]; simp
  · rintro i st ⟨hi, rfl⟩
    simp only [go_sem, Nat.reduceEqDiff, reduceIte, ↓reduceIte, Nat.reduceAdd]
    intro _
    refine condK_split _ (fun hc => ?_) (fun hc => ?_)
    · have hil : i < old.length := by simpa using hc
      simp only [go_sem, Nat.reduceEqDiff, reduceIte, ↓reduceIte, Nat.reduceAdd, set_get hid, over_get _ _ hil]
      refine ⟨by simpa using hc, ?_⟩
      rw [stoR_at (over_get _ _ hil) (splice_one (h1 _ (List.getElem_mem hil)) _)]
      simp only [go_sem, Nat.reduceEqDiff, reduceIte, ↓reduceIte, Nat.reduceAdd]
      refine ⟨i + 1, ⟨hil, ?_⟩, by omega⟩
      rw [wr1 hil hm, wr64 (by omega) (by omega), List.set_set, over_set _ _ hil]
      simp only [Int.natCast_add, Int.natCast_one, Int.add_assoc]
    · have hil : i = old.length := by simp at hc; omega
      simp only [go_sem, Nat.reduceEqDiff, reduceIte, ↓reduceIte, Nat.reduceAdd]
      subst hil
      refine ⟨rfl, ?_⟩
      rw [over_all, intR, pat, List.map_map]
      rfl

theorem pat_get (k : Int) (n : Nat) {i : Nat} (h : i < n) : (intR .u8 (pat k n))[i]? = some [.p (.i .u8 (wr .u8 (k + i)))] := by simp [intR, pat, h]

theorem heldByteS {H : List AO} {id ver : Nat} (n : Nat) (k : Int) (hid : H[id]? = some (.rows 1 ver (intR .u8 (pat k n)))) (hn : n ≤ 100000000) (hk0 : 0 ≤ k) (hk : k ≤ 100000000) :
    ACall Try.prog 27 [.gs id ver 0 n, .p (.i .i64 k)] H (fun r H' => r = .p (.i .i64 (k + n)) ∧ H' = H) := by
  have hm : n ≤ maxL := by unfold maxL; omega
  refine call27 (by simp) ?_
  simp only [go_sem, Nat.reduceEqDiff, reduceIte, ↓reduceIte, Nat.reduceAdd, mc27, mr27]
  refine ⟨Nat, [0, 1, 4, 5], fun i st => i ≤ n ∧ st = ⟨[(0, .gs id ver 0 n), (1, .p (.i .i64 (k + i))), (4, .p (.i .i64 0)), (5, .p (.i .i64 i))], [], H⟩, fun i => n - i, ⟨0, ?_⟩, ?_⟩
  · simp only [go_sem, Nat.reduceEqDiff, reduceIte, ↓reduceIte, Nat.reduceAdd]
    exact ⟨Nat.zero_le _, by simp⟩
  · rintro i st ⟨hi, rfl⟩
    simp only [go_sem, Nat.reduceEqDiff, reduceIte, ↓reduceIte, Nat.reduceAdd]
    intro _
    refine condK_split _ (fun hc => ?_) (fun hc => ?_)
    · have hil : i < n := by simpa using hc
      simp only [go_sem, Nat.reduceEqDiff, reduceIte, ↓reduceIte, Nat.reduceAdd, List.replicate_succ, List.replicate_zero, List.set_cons_zero, List.set_cons_succ, List.length_cons, List.length_nil, Nat.reduceLT, Nat.lt_add_one, ne_eq, Int.reduceEq, not_false_eq_true, Option.map_some, Nat.reduceLeDiff, Nat.zero_lt_succ, List.map_cons, List.map_nil, List.nil_append, List.cons_append, List.append_nil, bytesOf, List.take_succ_cons, List.take_zero, List.drop_zero, and_self, List.append_assoc, List.length_append, Int.reduceLT, Int.reduceLE, Int.toNat_zero, Int.reduceToNat, Int.cast_ofNat_Int, Int.natCast_zero, Int.natCast_one, Int.reduceAdd, List.map_append, Option.bind_some, hid, pat_get k n hil]
      refine ⟨by simpa using hc, ?_⟩
      refine ⟨i + 1, ⟨hil, ?_⟩, by omega⟩
      rw [wr1 hil hm, wr64 (by omega) (by omega)]
      simp only [Int.natCast_add, Int.natCast_one, Int.add_assoc]
    · have hil : i = n := by simp at hc; omega
      simp only [go_sem, Nat.reduceEqDiff, reduceIte, ↓reduceIte, Nat.reduceAdd]
      subst hil
      rfl
end Go.Proofs.Ytmbggdfceecojaa.Cd
