/- ClientNone at 3 to 7: runs of the quick interpreter in the kernel. No condition. -/
import Derived.Test.YthlkmfeelhbhjaaGreatDoorRunsW
set_option linter.unusedVariables false
set_option linter.unusedSimpArgs false
noncomputable section
namespace Go.Proofs.YthlkmfeelhbhjaaGreatDoor
open Go.Hg

set_option maxRecDepth 1000000
theorem run_3 : retB ((engQ Tryz.prog (oneTrue 17) 100000).call (.fn 3 [.int .i64 (.ofNat 3)]) .nil 0) = true := by kernel_rfl
theorem run_4 : retB ((engQ Tryz.prog (oneTrue 17) 100000).call (.fn 3 [.int .i64 (.ofNat 4)]) .nil 0) = true := by kernel_rfl
theorem run_5 : retB ((engQ Tryz.prog (oneTrue 17) 100000).call (.fn 3 [.int .i64 (.ofNat 5)]) .nil 0) = true := by kernel_rfl
theorem run_6 : retB ((engQ Tryz.prog (oneTrue 17) 100000).call (.fn 3 [.int .i64 (.ofNat 6)]) .nil 0) = true := by kernel_rfl
theorem run_7 : retB ((engQ Tryz.prog (oneTrue 17) 100000).call (.fn 3 [.int .i64 (.ofNat 7)]) .nil 0) = true := by kernel_rfl
end Go.Proofs.YthlkmfeelhbhjaaGreatDoor
