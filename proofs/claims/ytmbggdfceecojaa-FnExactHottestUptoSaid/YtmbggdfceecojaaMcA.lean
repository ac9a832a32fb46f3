/- THE SMALL CODES of functions 3 15 16 17 18 66 67, and their ties to the program (printed by wip/tools/mkties.sh). -/
import Derived.Test.YtmbggdfceecojaaAm25
import Derived.Test.YtmbggdfceecojaaChecked
import Derived.KernelRfl
set_option linter.all false
namespace Go.Proofs.Ytmbggdfceecojaa.Mc
open Go.AM
def lv3 : List Nat := [0, 2, 3, 4, 5, 6, 7, 10, 31, 36]
def mc3 : MC :=
.seq (.reg [
    ⟨.l 2, .mv (.c (.p (.b false))), none⟩]) (
  .seq (.seq (.reg [
    ⟨.t 8, .mv (.l 0), none⟩,
    ⟨.t 9, .len false (.t 8), none⟩,
    ⟨.l 10, .bin .gtr (.t 9) (.c (.p (.i .i64 1048576))), none⟩]) (
  .cond (.l 10) (
    .seq (.reg [
      ⟨.l 2, .mv (.c (.p (.b true))), none⟩]) (
    .ret)) (
    .skip))) (
  .seq (.reg [
    ⟨.t 12, .mv (.l 0), none⟩,
    ⟨.t 13, .call 16 [.t 12], none⟩,
    ⟨.t 14, .call 15 [.t 13], none⟩,
    ⟨.t 11, .mv (.t 14), none⟩,
    ⟨.t 15, .ext (.t 11) 0, none⟩,
    ⟨.t 16, .ext (.t 11) 1, none⟩,
    ⟨.l 3, .mv (.t 15), none⟩,
    ⟨.l 4, .mv (.t 16), none⟩]) (
  .seq (.reg [
    ⟨.t 17, .mv (.l 0), none⟩,
    ⟨.t 18, .call 16 [.t 17], none⟩,
    ⟨.l 5, .mv (.t 18), none⟩]) (
  .seq (.reg [
    ⟨.t 20, .mv (.l 5), none⟩,
    ⟨.t 21, .call 17 [.t 20], none⟩,
    ⟨.t 19, .mv (.t 21), none⟩,
    ⟨.t 22, .ext (.t 19) 0, none⟩,
    ⟨.t 23, .ext (.t 19) 1, none⟩,
    ⟨.l 6, .mv (.t 22), none⟩,
    ⟨.l 7, .mv (.t 23), none⟩]) (
  .seq (.seq (.reg [
    ⟨.t 24, .mv (.l 6), none⟩,
    ⟨.t 25, .mv (.l 3), none⟩,
    ⟨.t 26, .bin .neq (.t 24) (.t 25), none⟩,
    ⟨.t 27, .mv (.t 26), none⟩,
    ⟨.t 28, .mv (.l 7), some ((.t 27), false)⟩,
    ⟨.t 29, .mv (.l 4), some ((.t 27), false)⟩,
    ⟨.t 30, .bin .neq (.t 28) (.t 29), some ((.t 27), false)⟩,
    ⟨.l 31, .pick (.t 27) (.c (.p (.b true))) (.t 30), none⟩]) (
  .cond (.l 31) (
    .seq (.reg [
      ⟨.l 2, .mv (.c (.p (.b false))), none⟩]) (
    .ret)) (
    .skip))) (
  .seq (.seq (.reg [
    ⟨.t 32, .mv (.l 5), none⟩,
    ⟨.t 33, .mv (.l 0), none⟩,
    ⟨.t 34, .call 16 [.t 33], none⟩,
    ⟨.t 35, .call 18 [.t 32, .t 34], none⟩,
    ⟨.l 36, .un .not (.t 35), none⟩]) (
  .cond (.l 36) (
    .seq (.reg [
      ⟨.l 2, .mv (.c (.p (.b false))), none⟩]) (
    .ret)) (
    .skip))) (
  .seq (.reg [
    ⟨.l 2, .mv (.c (.p (.b true))), none⟩]) (
  .ret))))))))
theorem mc3_eq : (Try.f3.body.map (compile lv3 Try.prog 37)) = some mc3 := by kernel_rfl
def mr3 : List MR := [.t 2]
theorem mr3_eq : cRess lv3 Try.prog Try.f3.results.toList = some mr3 := by kernel_rfl
theorem call3 {args : List AV} {H : List AO} {Q : AV → List AO → Prop} (hla : args.length ≤ 37) (h : wpm (ACall Try.prog) mc3 (finK mr3 Q) ⟨argEnv 0 args, [], H⟩) : ACall Try.prog 3 args H Q :=
  acall_mc (by kernel_rfl) Try.func3 mc3_eq Try.ntmps3 (by kernel_rfl) mr3_eq hla h
def lv15 : List Nat := [0, 2, 3, 4, 5, 8, 12, 23]
def mc15 : MC :=
.seq (.reg [
    ⟨.l 2, .mv (.c (.p (.i .i64 0))), none⟩,
    ⟨.l 3, .mv (.c (.p (.i .i64 0))), none⟩]) (
  .seq (.seq (.reg [
    ⟨.t 6, .mv (.l 0), none⟩,
    ⟨.t 7, .len false (.t 6), none⟩,
    ⟨.l 8, .bin .eql (.t 7) (.c (.p (.i .i64 0))), none⟩]) (
  .cond (.l 8) (
    .seq (.reg [
      ⟨.l 2, .mv (.c (.p (.i .i64 (-1)))), none⟩,
      ⟨.l 3, .mv (.c (.p (.i .i64 0))), none⟩]) (
    .ret)) (
    .skip))) (
  .seq (.reg [
    ⟨.l 4, .mv (.c (.p (.i .i64 0))), none⟩]) (
  .seq (.seq (.reg [
    ⟨.l 5, .mv (.c (.p (.i .i64 0))), none⟩]) (
  .blk 0 (
    .loop (
      .seq (.seq (.reg [
        ⟨.t 9, .mv (.l 5), none⟩,
        ⟨.t 10, .mv (.l 0), none⟩,
        ⟨.t 11, .len false (.t 10), none⟩,
        ⟨.l 12, .bin .lss (.t 9) (.t 11), none⟩]) (
      .cond (.l 12) (
        .skip) (
        .exit 0))) (
      .seq (.blk 1 (
        .seq (.drw [
          ⟨.t 15, .mv (.l 0), none⟩,
          ⟨.t 16, .mv (.l 5), none⟩,
          ⟨.t 17, .ixs 1 (.t 15) (.t 16), none⟩,
          ⟨.t 18, .ld false 1 (.t 17), none⟩,
          ⟨.t 19, .mv (.l 0), none⟩,
          ⟨.t 20, .mv (.l 4), none⟩,
          ⟨.t 21, .ixs 1 (.t 19) (.t 20), none⟩,
          ⟨.t 22, .ld false 1 (.t 21), none⟩] [
          ⟨.l 23, .bin .gtr (.t 18) (.t 22), none⟩]) (
        .cond (.l 23) (
          .reg [
            ⟨.t 24, .mv (.l 5), none⟩,
            ⟨.l 4, .mv (.t 24), none⟩]) (
          .skip)))) (
      .reg [
        ⟨.t 13, .mv (.l 5), none⟩,
        ⟨.t 14, .bin .add (.t 13) (.c (.p (.i .i64 1))), none⟩,
        ⟨.l 5, .mv (.t 14), none⟩])))))) (
  .seq (.drw [
    ⟨.t 25, .mv (.l 4), none⟩,
    ⟨.t 26, .mv (.l 0), none⟩,
    ⟨.t 27, .mv (.l 4), none⟩,
    ⟨.t 28, .ixs 1 (.t 26) (.t 27), none⟩,
    ⟨.t 29, .ld false 1 (.t 28), none⟩,
    ⟨.l 2, .mv (.t 25), none⟩] [
    ⟨.l 3, .mv (.t 29), none⟩]) (
  .ret)))))
theorem mc15_eq : (Try.f15.body.map (compile lv15 Try.prog 30)) = some mc15 := by kernel_rfl
def mr15 : List MR := [.t 2, .t 3]
theorem mr15_eq : cRess lv15 Try.prog Try.f15.results.toList = some mr15 := by kernel_rfl
theorem call15 {args : List AV} {H : List AO} {Q : AV → List AO → Prop} (hla : args.length ≤ 30) (h : wpm (ACall Try.prog) mc15 (finK mr15 Q) ⟨argEnv 0 args, [], H⟩) : ACall Try.prog 15 args H Q :=
  acall_mc (by kernel_rfl) Try.func15 mc15_eq Try.ntmps15 (by kernel_rfl) mr15_eq hla h
def lv16 : List Nat := [0, 2, 3, 4, 11]
def mc16 : MC :=
.seq (.reg [
    ⟨.l 2, .mv (.c (.p (.nl))), none⟩]) (
  .seq (.reg [
    ⟨.t 5, .mv (.l 0), none⟩,
    ⟨.t 6, .len false (.t 5), none⟩,
    ⟨.t 7, .mks 1 8 [.p (.i .i64 0)] (.t 6) (.t 6), none⟩,
    ⟨.l 3, .mv (.t 7), none⟩]) (
  .seq (.seq (.reg [
    ⟨.l 4, .mv (.c (.p (.i .i64 0))), none⟩]) (
  .blk 0 (
    .loop (
      .seq (.seq (.reg [
        ⟨.t 8, .mv (.l 4), none⟩,
        ⟨.t 9, .mv (.l 0), none⟩,
        ⟨.t 10, .len false (.t 9), none⟩,
        ⟨.l 11, .bin .lss (.t 8) (.t 10), none⟩]) (
      .cond (.l 11) (
        .skip) (
        .exit 0))) (
      .seq (.blk 1 (
        .reg [
          ⟨.t 14, .mv (.l 3), none⟩,
          ⟨.t 15, .mv (.l 4), none⟩,
          ⟨.t 16, .mv (.l 0), none⟩,
          ⟨.t 17, .mv (.l 4), none⟩,
          ⟨.t 18, .ixs 1 (.t 16) (.t 17), none⟩,
          ⟨.t 19, .ld false 1 (.t 18), none⟩,
          ⟨.t 20, .ixs 1 (.t 14) (.t 15), none⟩,
          ⟨.no, .sto 1 (.t 20) (.t 19), none⟩])) (
      .reg [
        ⟨.t 12, .mv (.l 4), none⟩,
        ⟨.t 13, .bin .add (.t 12) (.c (.p (.i .i64 1))), none⟩,
        ⟨.l 4, .mv (.t 13), none⟩])))))) (
  .seq (.reg [
    ⟨.t 21, .mv (.l 3), none⟩,
    ⟨.l 2, .mv (.t 21), none⟩]) (
  .ret))))
theorem mc16_eq : (Try.f16.body.map (compile lv16 Try.prog 22)) = some mc16 := by kernel_rfl
def mr16 : List MR := [.t 2]
theorem mr16_eq : cRess lv16 Try.prog Try.f16.results.toList = some mr16 := by kernel_rfl
theorem call16 {args : List AV} {H : List AO} {Q : AV → List AO → Prop} (hla : args.length ≤ 22) (h : wpm (ACall Try.prog) mc16 (finK mr16 Q) ⟨argEnv 0 args, [], H⟩) : ACall Try.prog 16 args H Q :=
  acall_mc (by kernel_rfl) Try.func16 mc16_eq Try.ntmps16 (by kernel_rfl) mr16_eq hla h
def lv17 : List Nat := [0, 2, 3, 4, 7]
def mc17 : MC :=
.seq (.reg [
    ⟨.l 2, .mv (.c (.p (.i .i64 0))), none⟩,
    ⟨.l 3, .mv (.c (.p (.i .i64 0))), none⟩]) (
  .seq (.seq (.reg [
    ⟨.t 5, .mv (.l 0), none⟩,
    ⟨.t 6, .len false (.t 5), none⟩,
    ⟨.l 7, .bin .eql (.t 6) (.c (.p (.i .i64 0))), none⟩]) (
  .cond (.l 7) (
    .seq (.reg [
      ⟨.l 2, .mv (.c (.p (.i .i64 (-1)))), none⟩,
      ⟨.l 3, .mv (.c (.p (.i .i64 0))), none⟩]) (
    .ret)) (
    .skip))) (
  .seq (.reg [
    ⟨.t 8, .mv (.l 0), none⟩,
    ⟨.t 9, .call 66 [.t 8], none⟩,
    ⟨.l 4, .mv (.t 9), none⟩]) (
  .seq (.reg [
    ⟨.t 10, .mv (.l 0), none⟩,
    ⟨.t 11, .mv (.l 4), none⟩,
    ⟨.t 12, .call 67 [.t 10, .t 11], none⟩,
    ⟨.t 13, .mv (.l 4), none⟩,
    ⟨.l 2, .mv (.t 12), none⟩,
    ⟨.l 3, .mv (.t 13), none⟩]) (
  .ret))))
theorem mc17_eq : (Try.f17.body.map (compile lv17 Try.prog 14)) = some mc17 := by kernel_rfl
def mr17 : List MR := [.t 2, .t 3]
theorem mr17_eq : cRess lv17 Try.prog Try.f17.results.toList = some mr17 := by kernel_rfl
theorem call17 {args : List AV} {H : List AO} {Q : AV → List AO → Prop} (hla : args.length ≤ 14) (h : wpm (ACall Try.prog) mc17 (finK mr17 Q) ⟨argEnv 0 args, [], H⟩) : ACall Try.prog 17 args H Q :=
  acall_mc (by kernel_rfl) Try.func17 mc17_eq Try.ntmps17 (by kernel_rfl) mr17_eq hla h
def lv18 : List Nat := [0, 1, 4, 5, 10, 14, 25]
def mc18 : MC :=
.seq (.reg [
    ⟨.l 4, .mv (.c (.p (.b false))), none⟩]) (
  .seq (.seq (.reg [
    ⟨.t 6, .mv (.l 0), none⟩,
    ⟨.t 7, .len false (.t 6), none⟩,
    ⟨.t 8, .mv (.l 1), none⟩,
    ⟨.t 9, .len false (.t 8), none⟩,
    ⟨.l 10, .bin .neq (.t 7) (.t 9), none⟩]) (
  .cond (.l 10) (
    .seq (.reg [
      ⟨.l 4, .mv (.c (.p (.b false))), none⟩]) (
    .ret)) (
    .skip))) (
  .seq (.seq (.reg [
    ⟨.l 5, .mv (.c (.p (.i .i64 0))), none⟩]) (
  .blk 0 (
    .loop (
      .seq (.seq (.reg [
        ⟨.t 11, .mv (.l 5), none⟩,
        ⟨.t 12, .mv (.l 0), none⟩,
        ⟨.t 13, .len false (.t 12), none⟩,
        ⟨.l 14, .bin .lss (.t 11) (.t 13), none⟩]) (
      .cond (.l 14) (
        .skip) (
        .exit 0))) (
      .seq (.blk 1 (
        .seq (.drw [
          ⟨.t 17, .mv (.l 0), none⟩,
          ⟨.t 18, .mv (.l 5), none⟩,
          ⟨.t 19, .ixs 1 (.t 17) (.t 18), none⟩,
          ⟨.t 20, .ld false 1 (.t 19), none⟩,
          ⟨.t 21, .mv (.l 1), none⟩,
          ⟨.t 22, .mv (.l 5), none⟩,
          ⟨.t 23, .ixs 1 (.t 21) (.t 22), none⟩,
          ⟨.t 24, .ld false 1 (.t 23), none⟩] [
          ⟨.l 25, .bin .neq (.t 20) (.t 24), none⟩]) (
        .cond (.l 25) (
          .seq (.reg [
            ⟨.l 4, .mv (.c (.p (.b false))), none⟩]) (
          .ret)) (
          .skip)))) (
      .reg [
        ⟨.t 15, .mv (.l 5), none⟩,
        ⟨.t 16, .bin .add (.t 15) (.c (.p (.i .i64 1))), none⟩,
        ⟨.l 5, .mv (.t 16), none⟩])))))) (
  .seq (.reg [
    ⟨.l 4, .mv (.c (.p (.b true))), none⟩]) (
  .ret))))
theorem mc18_eq : (Try.f18.body.map (compile lv18 Try.prog 26)) = some mc18 := by kernel_rfl
def mr18 : List MR := [.t 4]
theorem mr18_eq : cRess lv18 Try.prog Try.f18.results.toList = some mr18 := by kernel_rfl
theorem call18 {args : List AV} {H : List AO} {Q : AV → List AO → Prop} (hla : args.length ≤ 26) (h : wpm (ACall Try.prog) mc18 (finK mr18 Q) ⟨argEnv 0 args, [], H⟩) : ACall Try.prog 18 args H Q :=
  acall_mc (by kernel_rfl) Try.func18 mc18_eq Try.ntmps18 (by kernel_rfl) mr18_eq hla h
def lv66 : List Nat := [0, 2, 3, 4, 7, 15]
def mc66 : MC :=
.seq (.reg [
    ⟨.l 2, .mv (.c (.p (.i .i64 0))), none⟩]) (
  .seq (.seq (.reg [
    ⟨.t 5, .mv (.l 0), none⟩,
    ⟨.t 6, .len false (.t 5), none⟩,
    ⟨.l 7, .bin .lss (.t 6) (.c (.p (.i .i64 1))), none⟩]) (
  .cond (.l 7) (
    .reg [
      ⟨.no, .stop, none⟩,
      ⟨.no, .stop, none⟩]) (
    .skip))) (
  .seq (.reg [
    ⟨.t 9, .mv (.l 0), none⟩,
    ⟨.t 10, .ixs 1 (.t 9) (.c (.p (.i .i64 0))), none⟩,
    ⟨.t 11, .ld false 1 (.t 10), none⟩,
    ⟨.l 3, .mv (.t 11), none⟩]) (
  .seq (.seq (.reg [
    ⟨.l 4, .mv (.c (.p (.i .i64 1))), none⟩]) (
  .blk 0 (
    .loop (
      .seq (.seq (.reg [
        ⟨.t 12, .mv (.l 4), none⟩,
        ⟨.t 13, .mv (.l 0), none⟩,
        ⟨.t 14, .len false (.t 13), none⟩,
        ⟨.l 15, .bin .lss (.t 12) (.t 14), none⟩]) (
      .cond (.l 15) (
        .skip) (
        .exit 0))) (
      .seq (.blk 1 (
        .reg [
          ⟨.t 18, .mv (.l 3), none⟩,
          ⟨.t 19, .mv (.l 0), none⟩,
          ⟨.t 20, .mv (.l 4), none⟩,
          ⟨.t 21, .ixs 1 (.t 19) (.t 20), none⟩,
          ⟨.t 22, .ld false 1 (.t 21), none⟩,
          ⟨.t 23, .mnx true (.t 18) (.t 22), none⟩,
          ⟨.l 3, .mv (.t 23), none⟩])) (
      .reg [
        ⟨.t 16, .mv (.l 4), none⟩,
        ⟨.t 17, .bin .add (.t 16) (.c (.p (.i .i64 1))), none⟩,
        ⟨.l 4, .mv (.t 17), none⟩])))))) (
  .seq (.reg [
    ⟨.t 24, .mv (.l 3), none⟩,
    ⟨.l 2, .mv (.t 24), none⟩]) (
  .ret)))))
theorem mc66_eq : (Try.f66.body.map (compile lv66 Try.prog 25)) = some mc66 := by kernel_rfl
def mr66 : List MR := [.t 2]
theorem mr66_eq : cRess lv66 Try.prog Try.f66.results.toList = some mr66 := by kernel_rfl
theorem call66 {args : List AV} {H : List AO} {Q : AV → List AO → Prop} (hla : args.length ≤ 25) (h : wpm (ACall Try.prog) mc66 (finK mr66 Q) ⟨argEnv 0 args, [], H⟩) : ACall Try.prog 66 args H Q :=
  acall_mc (by kernel_rfl) Try.func66 mc66_eq Try.ntmps66 (by kernel_rfl) mr66_eq hla h
def lv67 : List Nat := [0, 1, 4, 5, 7, 8, 9, 16]
def mc67 : MC :=
.seq (.reg [
    ⟨.l 4, .mv (.c (.p (.i .i64 0))), none⟩]) (
  .seq (.seq (.reg [
    ⟨.t 6, .mv (.l 0), none⟩,
    ⟨.l 7, .len false (.t 6), none⟩,
    ⟨.l 8, .mv (.c (.p (.i .i64 0))), none⟩]) (
  .blk 0 (
    .loop (
      .seq (.reg [
        ⟨.l 9, .bin .lss (.l 8) (.l 7), none⟩]) (
      .seq (.cond (.l 9) (
        .skip) (
        .exit 0)) (
      .seq (.blk 1 (
        .seq (.reg [
          ⟨.t 10, .mv (.l 8), none⟩,
          ⟨.l 5, .mv (.t 10), none⟩]) (
        .seq (.reg [
          ⟨.t 11, .mv (.l 1), none⟩,
          ⟨.t 12, .mv (.l 0), none⟩,
          ⟨.t 13, .mv (.l 5), none⟩,
          ⟨.t 14, .ixs 1 (.t 12) (.t 13), none⟩,
          ⟨.t 15, .ld false 1 (.t 14), none⟩,
          ⟨.l 16, .bin .eql (.t 11) (.t 15), none⟩]) (
        .cond (.l 16) (
          .seq (.reg [
            ⟨.t 17, .mv (.l 5), none⟩,
            ⟨.l 4, .mv (.t 17), none⟩]) (
          .ret)) (
          .skip))))) (
      .reg [
        ⟨.t 18, .bin .add (.l 8) (.c (.p (.i .i64 1))), none⟩,
        ⟨.l 8, .mv (.t 18), none⟩]))))))) (
  .seq (.reg [
    ⟨.l 4, .mv (.c (.p (.i .i64 (-1)))), none⟩]) (
  .ret)))
theorem mc67_eq : (Try.f67.body.map (compile lv67 Try.prog 19)) = some mc67 := by kernel_rfl
def mr67 : List MR := [.t 4]
theorem mr67_eq : cRess lv67 Try.prog Try.f67.results.toList = some mr67 := by kernel_rfl
theorem call67 {args : List AV} {H : List AO} {Q : AV → List AO → Prop} (hla : args.length ≤ 19) (h : wpm (ACall Try.prog) mc67 (finK mr67 Q) ⟨argEnv 0 args, [], H⟩) : ACall Try.prog 67 args H Q :=
  acall_mc (by kernel_rfl) Try.func67 mc67_eq Try.ntmps67 (by kernel_rfl) mr67_eq hla h
end Go.Proofs.Ytmbggdfceecojaa.Mc
