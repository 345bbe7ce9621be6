/- TopRefuses, evaluated. -/
import Derived.Test.YtnllmelmmcapcaaGreatDoorTopD
import Derived.KernelRfl
namespace Go.Proofs.YtnllmelmmcapcaaGreatDoor.Ev
open Go Go.RowKit
set_option linter.unusedVariables false
set_option maxRecDepth 1000000

theorem refuses2 : evTop 1 false = some () := by kernel_rfl
theorem refuses3 : evTop 1 true = some () := by kernel_rfl
end Go.Proofs.YtnllmelmmcapcaaGreatDoor.Ev
