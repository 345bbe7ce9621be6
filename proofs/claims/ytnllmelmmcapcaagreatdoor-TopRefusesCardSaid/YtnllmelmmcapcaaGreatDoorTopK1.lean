/- TopRefuses: the row's closed facts, one by one. -/
import Derived.Test.YtnllmelmmcapcaaGreatDoorRows
import Derived.ProofKit
import Derived.Stop.Joined
namespace Go.Proofs.YtnllmelmmcapcaaGreatDoor.topRefuses
open Go
set_option linter.unusedVariables false
theorem k9 : ((Rows.topRefusesRow.inPlace == Tryz.prog.inPlace 4)) = true := by kernel_rfl
theorem k10 : ((Rows.topRefusesRow.unfollowed == Tryz.prog.unfollowed 4)) = true := by kernel_rfl
end Go.Proofs.YtnllmelmmcapcaaGreatDoor.topRefuses
