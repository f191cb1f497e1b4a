/- ClientNone at a number below 0, at 8 and above, and at 0 to 2: runs of the quick interpreter in the kernel. No condition. -/
import Derived.Test.YthlkmfeelhbhjaaGreatDoorRunsW
set_option linter.unusedVariables false
set_option linter.unusedSimpArgs false
noncomputable section
namespace Go.Proofs.YthlkmfeelhbhjaaGreatDoor
open Go.Hg

set_option maxRecDepth 1000000
theorem run_neg (k : Nat) : retB ((engQ Tryz.prog (oneTrue 17) 100000).call (.fn 3 [.int .i64 (.negSucc k)]) .nil 0) = true := by kernel_rfl
theorem run_big (k : Nat) : retB ((engQ Tryz.prog (oneTrue 17) 100000).call (.fn 3 [.int .i64 (.ofNat (k + 8))]) .nil 0) = true := by kernel_rfl
theorem run_0 : retB ((engQ Tryz.prog (oneTrue 17) 100000).call (.fn 3 [.int .i64 (.ofNat 0)]) .nil 0) = true := by kernel_rfl
theorem run_1 : retB ((engQ Tryz.prog (oneTrue 17) 100000).call (.fn 3 [.int .i64 (.ofNat 1)]) .nil 0) = true := by kernel_rfl
theorem run_2 : retB ((engQ Tryz.prog (oneTrue 17) 100000).call (.fn 3 [.int .i64 (.ofNat 2)]) .nil 0) = true := by kernel_rfl
end Go.Proofs.YthlkmfeelhbhjaaGreatDoor
