/- The missing pattern: what the runs give, as contracts (printed by wip/tools/mkqyc.py). -/
import Derived.Test.YtiehnbbbhcaacaaGreatDoorKAN
set_option linter.all false
set_option maxRecDepth 100000
namespace Go.Proofs.YtiehnbbbhcaacaaGreatDoor.Ev
open Go.AM
noncomputable section
theorem kf00 : KnOk ka00 := kn1 (kn1 kn0 (knE kn0 rfl i00)) (knE kn0 rfl c00)
theorem kg00 : KnOk ke00 := kn1 kf00 (knE kn0 rfl o00)
theorem kh00 : KnOk kn00 := kn1 (kn1 (kn1 (kn1 kg00 (knE kf00 rfl ea00)) (knE kn0 rfl ep00)) (knE kn0 rfl eb00)) (knE kg00 rfl ee00)
theorem ki00 : KnOk kp00 := kn1 kh00 (knE kh00 rfl m00)
theorem kf01 : KnOk ka01 := kn1 (kn1 kn0 (knE kn0 rfl i01)) (knE kn0 rfl c01)
theorem kg01 : KnOk ke01 := kn1 kf01 (knE kn0 rfl o01)
theorem kh01 : KnOk kn01 := kn1 (kn1 (kn1 (kn1 kg01 (knE kf01 rfl ea01)) (knE kn0 rfl ep01)) (knE kn0 rfl eb01)) (knE kg01 rfl ee01)
theorem ki01 : KnOk kp01 := kn1 kh01 (knE kh01 rfl m01)
theorem kf10 : KnOk ka10 := kn1 (kn1 kn0 (knE kn0 rfl i10)) (knE kn0 rfl c10)
theorem kg10 : KnOk ke10 := kn1 kf10 (knE kn0 rfl o10)
theorem kh10 : KnOk kn10 := kn1 (kn1 (kn1 (kn1 kg10 (knE kf10 rfl ea10)) (knE kn0 rfl ep10)) (knE kn0 rfl eb10)) (knE kg10 rfl ee10)
theorem ki10 : KnOk kp10 := kn1 kh10 (knE kh10 rfl m10)
theorem kf11 : KnOk ka11 := kn1 (kn1 kn0 (knE kn0 rfl i11)) (knE kn0 rfl c11)
theorem kg11 : KnOk ke11 := kn1 kf11 (knE kn0 rfl o11)
theorem kh11 : KnOk kn11 := kn1 (kn1 (kn1 (kn1 kg11 (knE kf11 rfl ea11)) (knE kn0 rfl ep11)) (knE kn0 rfl eb11)) (knE kg11 rfl ee11)
theorem ki11 : KnOk kp11 := kn1 kh11 (knE kh11 rfl m11)
theorem kf20 : KnOk ka20 := kn1 (kn1 kn0 (knE kn0 rfl i20)) (knE kn0 rfl c20)
theorem kg20 : KnOk ke20 := kn1 kf20 (knE kn0 rfl o20)
theorem kh20 : KnOk kn20 := kn1 (kn1 (kn1 (kn1 kg20 (knE kf20 rfl ea20)) (knE kn0 rfl ep20)) (knE kn0 rfl eb20)) (knE kg20 rfl ee20)
theorem ki20 : KnOk kp20 := kn1 kh20 (knE kh20 rfl m20)
theorem kf21 : KnOk ka21 := kn1 (kn1 kn0 (knE kn0 rfl i21)) (knE kn0 rfl c21)
theorem kg21 : KnOk ke21 := kn1 kf21 (knE kn0 rfl o21)
theorem kh21 : KnOk kn21 := kn1 (kn1 (kn1 (kn1 kg21 (knE kf21 rfl ea21)) (knE kn0 rfl ep21)) (knE kn0 rfl eb21)) (knE kg21 rfl ee21)
theorem ki21 : KnOk kp21 := kn1 kh21 (knE kh21 rfl m21)
theorem kf30 : KnOk ka30 := kn1 (kn1 kn0 (knE kn0 rfl i30)) (knE kn0 rfl c30)
theorem kg30 : KnOk ke30 := kn1 kf30 (knE kn0 rfl o30)
theorem kh30 : KnOk kn30 := kn1 (kn1 (kn1 (kn1 kg30 (knE kf30 rfl ea30)) (knE kn0 rfl ep30)) (knE kn0 rfl eb30)) (knE kg30 rfl ee30)
theorem ki30 : KnOk kp30 := kn1 kh30 (knE kh30 rfl m30)
theorem kf31 : KnOk ka31 := kn1 (kn1 kn0 (knE kn0 rfl i31)) (knE kn0 rfl c31)
theorem kg31 : KnOk ke31 := kn1 kf31 (knE kn0 rfl o31)
theorem kh31 : KnOk kn31 := kn1 (kn1 (kn1 (kn1 kg31 (knE kf31 rfl ea31)) (knE kn0 rfl ep31)) (knE kn0 rfl eb31)) (knE kg31 rfl ee31)
theorem ki31 : KnOk kp31 := kn1 kh31 (knE kh31 rfl m31)
theorem run00 {k m : Nat} (hk : k < 4) (hm : m < 2) (H : List AO) : ACall Tryz.prog 6 [tx00, inD k m, .p (.i .i64 500)] H (pureQ (.tup [outD 0 0 k m, zF]) H) := by
  rcases (by omega : k = 0 ∨ k = 1 ∨ k = 2 ∨ k = 3) with rfl | rfl | rfl | rfl <;> rcases (by omega : m = 0 ∨ m = 1) with rfl | rfl
  · exact knE kh00 rfl r0000 H
  · exact knE kh00 rfl r0001 H
  · exact knE kh00 rfl r0010 H
  · exact knE kh00 rfl r0011 H
  · exact knE kh00 rfl r0020 H
  · exact knE kh00 rfl r0021 H
  · exact knE kh00 rfl r0030 H
  · exact knE kh00 rfl r0031 H
theorem run01 {k m : Nat} (hk : k < 4) (hm : m < 2) (H : List AO) : ACall Tryz.prog 6 [tx01, inD k m, .p (.i .i64 500)] H (pureQ (.tup [outD 0 1 k m, zF]) H) := by
  rcases (by omega : k = 0 ∨ k = 1 ∨ k = 2 ∨ k = 3) with rfl | rfl | rfl | rfl <;> rcases (by omega : m = 0 ∨ m = 1) with rfl | rfl
  · exact knE kh01 rfl r0100 H
  · exact knE kh01 rfl r0101 H
  · exact knE kh01 rfl r0110 H
  · exact knE kh01 rfl r0111 H
  · exact knE kh01 rfl r0120 H
  · exact knE kh01 rfl r0121 H
  · exact knE kh01 rfl r0130 H
  · exact knE kh01 rfl r0131 H
theorem run10 {k m : Nat} (hk : k < 4) (hm : m < 2) (H : List AO) : ACall Tryz.prog 6 [tx10, inD k m, .p (.i .i64 500)] H (pureQ (.tup [outD 1 0 k m, zF]) H) := by
  rcases (by omega : k = 0 ∨ k = 1 ∨ k = 2 ∨ k = 3) with rfl | rfl | rfl | rfl <;> rcases (by omega : m = 0 ∨ m = 1) with rfl | rfl
  · exact knE kh10 rfl r1000 H
  · exact knE kh10 rfl r1001 H
  · exact knE kh10 rfl r1010 H
  · exact knE kh10 rfl r1011 H
  · exact knE kh10 rfl r1020 H
  · exact knE kh10 rfl r1021 H
  · exact knE kh10 rfl r1030 H
  · exact knE kh10 rfl r1031 H
theorem run11 {k m : Nat} (hk : k < 4) (hm : m < 2) (H : List AO) : ACall Tryz.prog 6 [tx11, inD k m, .p (.i .i64 500)] H (pureQ (.tup [outD 1 1 k m, zF]) H) := by
  rcases (by omega : k = 0 ∨ k = 1 ∨ k = 2 ∨ k = 3) with rfl | rfl | rfl | rfl <;> rcases (by omega : m = 0 ∨ m = 1) with rfl | rfl
  · exact knE kh11 rfl r1100 H
  · exact knE kh11 rfl r1101 H
  · exact knE kh11 rfl r1110 H
  · exact knE kh11 rfl r1111 H
  · exact knE kh11 rfl r1120 H
  · exact knE kh11 rfl r1121 H
  · exact knE kh11 rfl r1130 H
  · exact knE kh11 rfl r1131 H
theorem run20 {k m : Nat} (hk : k < 4) (hm : m < 2) (H : List AO) : ACall Tryz.prog 6 [tx20, inD k m, .p (.i .i64 500)] H (pureQ (.tup [outD 2 0 k m, zF]) H) := by
  rcases (by omega : k = 0 ∨ k = 1 ∨ k = 2 ∨ k = 3) with rfl | rfl | rfl | rfl <;> rcases (by omega : m = 0 ∨ m = 1) with rfl | rfl
  · exact knE kh20 rfl r2000 H
  · exact knE kh20 rfl r2001 H
  · exact knE kh20 rfl r2010 H
  · exact knE kh20 rfl r2011 H
  · exact knE kh20 rfl r2020 H
  · exact knE kh20 rfl r2021 H
  · exact knE kh20 rfl r2030 H
  · exact knE kh20 rfl r2031 H
theorem run21 {k m : Nat} (hk : k < 4) (hm : m < 2) (H : List AO) : ACall Tryz.prog 6 [tx21, inD k m, .p (.i .i64 500)] H (pureQ (.tup [outD 2 1 k m, zF]) H) := by
  rcases (by omega : k = 0 ∨ k = 1 ∨ k = 2 ∨ k = 3) with rfl | rfl | rfl | rfl <;> rcases (by omega : m = 0 ∨ m = 1) with rfl | rfl
  · exact knE kh21 rfl r2100 H
  · exact knE kh21 rfl r2101 H
  · exact knE kh21 rfl r2110 H
  · exact knE kh21 rfl r2111 H
  · exact knE kh21 rfl r2120 H
  · exact knE kh21 rfl r2121 H
  · exact knE kh21 rfl r2130 H
  · exact knE kh21 rfl r2131 H
theorem run30 {k m : Nat} (hk : k < 4) (hm : m < 2) (H : List AO) : ACall Tryz.prog 6 [tx30, inD k m, .p (.i .i64 500)] H (pureQ (.tup [outD 3 0 k m, zF]) H) := by
  rcases (by omega : k = 0 ∨ k = 1 ∨ k = 2 ∨ k = 3) with rfl | rfl | rfl | rfl <;> rcases (by omega : m = 0 ∨ m = 1) with rfl | rfl
  · exact knE kh30 rfl r3000 H
  · exact knE kh30 rfl r3001 H
  · exact knE kh30 rfl r3010 H
  · exact knE kh30 rfl r3011 H
  · exact knE kh30 rfl r3020 H
  · exact knE kh30 rfl r3021 H
  · exact knE kh30 rfl r3030 H
  · exact knE kh30 rfl r3031 H
theorem run31 {k m : Nat} (hk : k < 4) (hm : m < 2) (H : List AO) : ACall Tryz.prog 6 [tx31, inD k m, .p (.i .i64 500)] H (pureQ (.tup [outD 3 1 k m, zF]) H) := by
  rcases (by omega : k = 0 ∨ k = 1 ∨ k = 2 ∨ k = 3) with rfl | rfl | rfl | rfl <;> rcases (by omega : m = 0 ∨ m = 1) with rfl | rfl
  · exact knE kh31 rfl r3100 H
  · exact knE kh31 rfl r3101 H
  · exact knE kh31 rfl r3110 H
  · exact knE kh31 rfl r3111 H
  · exact knE kh31 rfl r3120 H
  · exact knE kh31 rfl r3121 H
  · exact knE kh31 rfl r3130 H
  · exact knE kh31 rfl r3131 H
theorem play00 {k m : Nat} (hk : k < 4) (hm : m < 2) (H : List AO) : ACall Tryz.prog 7 [tx00, inD k m, .p (.i .i64 500), .p (.i .i64 5000)] H (pureQ (.tup [outD 0 0 k m, zF]) H) := by
  rcases (by omega : k = 0 ∨ k = 1 ∨ k = 2 ∨ k = 3) with rfl | rfl | rfl | rfl <;> rcases (by omega : m = 0 ∨ m = 1) with rfl | rfl
  · exact knE ki00 rfl q0000 H
  · exact knE ki00 rfl q0001 H
  · exact knE ki00 rfl q0010 H
  · exact knE ki00 rfl q0011 H
  · exact knE ki00 rfl q0020 H
  · exact knE ki00 rfl q0021 H
  · exact knE ki00 rfl q0030 H
  · exact knE ki00 rfl q0031 H
theorem play01 {k m : Nat} (hk : k < 4) (hm : m < 2) (H : List AO) : ACall Tryz.prog 7 [tx01, inD k m, .p (.i .i64 500), .p (.i .i64 5000)] H (pureQ (.tup [outD 0 1 k m, zF]) H) := by
  rcases (by omega : k = 0 ∨ k = 1 ∨ k = 2 ∨ k = 3) with rfl | rfl | rfl | rfl <;> rcases (by omega : m = 0 ∨ m = 1) with rfl | rfl
  · exact knE ki01 rfl q0100 H
  · exact knE ki01 rfl q0101 H
  · exact knE ki01 rfl q0110 H
  · exact knE ki01 rfl q0111 H
  · exact knE ki01 rfl q0120 H
  · exact knE ki01 rfl q0121 H
  · exact knE ki01 rfl q0130 H
  · exact knE ki01 rfl q0131 H
theorem play10 {k m : Nat} (hk : k < 4) (hm : m < 2) (H : List AO) : ACall Tryz.prog 7 [tx10, inD k m, .p (.i .i64 500), .p (.i .i64 5000)] H (pureQ (.tup [outD 1 0 k m, zF]) H) := by
  rcases (by omega : k = 0 ∨ k = 1 ∨ k = 2 ∨ k = 3) with rfl | rfl | rfl | rfl <;> rcases (by omega : m = 0 ∨ m = 1) with rfl | rfl
  · exact knE ki10 rfl q1000 H
  · exact knE ki10 rfl q1001 H
  · exact knE ki10 rfl q1010 H
  · exact knE ki10 rfl q1011 H
  · exact knE ki10 rfl q1020 H
  · exact knE ki10 rfl q1021 H
  · exact knE ki10 rfl q1030 H
  · exact knE ki10 rfl q1031 H
theorem play11 {k m : Nat} (hk : k < 4) (hm : m < 2) (H : List AO) : ACall Tryz.prog 7 [tx11, inD k m, .p (.i .i64 500), .p (.i .i64 5000)] H (pureQ (.tup [outD 1 1 k m, zF]) H) := by
  rcases (by omega : k = 0 ∨ k = 1 ∨ k = 2 ∨ k = 3) with rfl | rfl | rfl | rfl <;> rcases (by omega : m = 0 ∨ m = 1) with rfl | rfl
  · exact knE ki11 rfl q1100 H
  · exact knE ki11 rfl q1101 H
  · exact knE ki11 rfl q1110 H
  · exact knE ki11 rfl q1111 H
  · exact knE ki11 rfl q1120 H
  · exact knE ki11 rfl q1121 H
  · exact knE ki11 rfl q1130 H
  · exact knE ki11 rfl q1131 H
theorem play20 {k m : Nat} (hk : k < 4) (hm : m < 2) (H : List AO) : ACall Tryz.prog 7 [tx20, inD k m, .p (.i .i64 500), .p (.i .i64 5000)] H (pureQ (.tup [outD 2 0 k m, zF]) H) := by
  rcases (by omega : k = 0 ∨ k = 1 ∨ k = 2 ∨ k = 3) with rfl | rfl | rfl | rfl <;> rcases (by omega : m = 0 ∨ m = 1) with rfl | rfl
  · exact knE ki20 rfl q2000 H
  · exact knE ki20 rfl q2001 H
  · exact knE ki20 rfl q2010 H
  · exact knE ki20 rfl q2011 H
  · exact knE ki20 rfl q2020 H
  · exact knE ki20 rfl q2021 H
  · exact knE ki20 rfl q2030 H
  · exact knE ki20 rfl q2031 H
theorem play21 {k m : Nat} (hk : k < 4) (hm : m < 2) (H : List AO) : ACall Tryz.prog 7 [tx21, inD k m, .p (.i .i64 500), .p (.i .i64 5000)] H (pureQ (.tup [outD 2 1 k m, zF]) H) := by
  rcases (by omega : k = 0 ∨ k = 1 ∨ k = 2 ∨ k = 3) with rfl | rfl | rfl | rfl <;> rcases (by omega : m = 0 ∨ m = 1) with rfl | rfl
  · exact knE ki21 rfl q2100 H
  · exact knE ki21 rfl q2101 H
  · exact knE ki21 rfl q2110 H
  · exact knE ki21 rfl q2111 H
  · exact knE ki21 rfl q2120 H
  · exact knE ki21 rfl q2121 H
  · exact knE ki21 rfl q2130 H
  · exact knE ki21 rfl q2131 H
theorem play30 {k m : Nat} (hk : k < 4) (hm : m < 2) (H : List AO) : ACall Tryz.prog 7 [tx30, inD k m, .p (.i .i64 500), .p (.i .i64 5000)] H (pureQ (.tup [outD 3 0 k m, zF]) H) := by
  rcases (by omega : k = 0 ∨ k = 1 ∨ k = 2 ∨ k = 3) with rfl | rfl | rfl | rfl <;> rcases (by omega : m = 0 ∨ m = 1) with rfl | rfl
  · exact knE ki30 rfl q3000 H
  · exact knE ki30 rfl q3001 H
  · exact knE ki30 rfl q3010 H
  · exact knE ki30 rfl q3011 H
  · exact knE ki30 rfl q3020 H
  · exact knE ki30 rfl q3021 H
  · exact knE ki30 rfl q3030 H
  · exact knE ki30 rfl q3031 H
theorem play31 {k m : Nat} (hk : k < 4) (hm : m < 2) (H : List AO) : ACall Tryz.prog 7 [tx31, inD k m, .p (.i .i64 500), .p (.i .i64 5000)] H (pureQ (.tup [outD 3 1 k m, zF]) H) := by
  rcases (by omega : k = 0 ∨ k = 1 ∨ k = 2 ∨ k = 3) with rfl | rfl | rfl | rfl <;> rcases (by omega : m = 0 ∨ m = 1) with rfl | rfl
  · exact knE ki31 rfl q3100 H
  · exact knE ki31 rfl q3101 H
  · exact knE ki31 rfl q3110 H
  · exact knE ki31 rfl q3111 H
  · exact knE ki31 rfl q3120 H
  · exact knE ki31 rfl q3121 H
  · exact knE ki31 rfl q3130 H
  · exact knE ki31 rfl q3131 H
theorem runC {n b k m : Nat} (hn : n < 4) (hb : b < 2) (hk : k < 4) (hm : m < 2) (H : List AO) : ACall Tryz.prog 6 [.p (.s (txS n b)), inD k m, .p (.i .i64 500)] H (pureQ (.tup [outD n b k m, zF]) H) := by
  rcases (by omega : n = 0 ∨ n = 1 ∨ n = 2 ∨ n = 3) with rfl | rfl | rfl | rfl <;> rcases (by omega : b = 0 ∨ b = 1) with rfl | rfl
  · exact run00 hk hm H
  · exact run01 hk hm H
  · exact run10 hk hm H
  · exact run11 hk hm H
  · exact run20 hk hm H
  · exact run21 hk hm H
  · exact run30 hk hm H
  · exact run31 hk hm H
theorem playC {n b k m : Nat} (hn : n < 4) (hb : b < 2) (hk : k < 4) (hm : m < 2) (H : List AO) : ACall Tryz.prog 7 [.p (.s (txS n b)), inD k m, .p (.i .i64 500), .p (.i .i64 5000)] H (pureQ (.tup [outD n b k m, zF]) H) := by
  rcases (by omega : n = 0 ∨ n = 1 ∨ n = 2 ∨ n = 3) with rfl | rfl | rfl | rfl <;> rcases (by omega : b = 0 ∨ b = 1) with rfl | rfl
  · exact play00 hk hm H
  · exact play01 hk hm H
  · exact play10 hk hm H
  · exact play11 hk hm H
  · exact play20 hk hm H
  · exact play21 hk hm H
  · exact play30 hk hm H
  · exact play31 hk hm H
theorem lawMatched (zs : List Int) (hw : ∀ a ∈ zs, 0 ≤ a ∧ a < 256) (H : List AO) : ACall Tryz.prog 3 [.p (.l (byts zs))] H (fun r _ => r = .p (.b true)) := lawM runC playC zs hw H
end
end Go.Proofs.YtiehnbbbhcaacaaGreatDoor.Ev
