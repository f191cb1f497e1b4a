/- The chapter's rows (works): one closed run of the quick interpreter in the kernel. No condition. -/
import Derived.Test.YthlkmfeelhbhjaaGreatDoorHgV0
import Derived.Test.YthlkmfeelhbhjaaGreatDoorProg
import Derived.KernelRfl
set_option linter.unusedVariables false
set_option linter.unusedSimpArgs false
noncomputable section
namespace Go.Proofs.YthlkmfeelhbhjaaGreatDoor
open Go.Hg

set_option maxRecDepth 1000000
theorem named : Named Tryz.prog := named_of (by kernel_rfl)
theorem mixed : Tryz.prog.follows .mixedOrders = true := by kernel_rfl
theorem bodyLaw : ∃ c, Tryz.f3.body = some c := ⟨_, rfl⟩
theorem bodyWorks : ∃ c, Tryz.f17.body = some c := ⟨_, rfl⟩

/-- The chapter's rows: one closed run. -/
theorem works_run : retB ((engQ Tryz.prog noOracle 100000).call (.fn 17 []) .nil 0) = true := by kernel_rfl
end Go.Proofs.YthlkmfeelhbhjaaGreatDoor
