/- TopRefuses: the row's closed facts, one by one. -/
import Derived.Test.YtnllmelmmcapcaaGreatDoorRows
import Derived.ProofKit
import Derived.Stop.Joined
namespace Go.Proofs.YtnllmelmmcapcaaGreatDoor.topRefuses
open Go
set_option linter.unusedVariables false
theorem k0 : (Rows.topRefusesRow.wf (OpenSpec.ofChange Rows.topRefusesSpec)) = true := by kernel_rfl
theorem k1 : (laidOutB Tryz.prog) = true := by kernel_rfl
theorem k2 : (mapsRowed Tryz.prog) = true := by kernel_rfl
theorem k3 : (Tryz.f4.params.all (Tryz.prog.readableRec ·)) = true := by kernel_rfl
theorem k4 : (namedTie Tryz.prog Rows.topRefusesRow.named Rows.topRefusesSpec.vars) = true := by kernel_rfl
theorem k5 : ((Rows.topRefusesRow.stops == [])) = true := by kernel_rfl
theorem k6 : ((Tryz.prog.stops == [])) = true := by kernel_rfl
theorem k7 : ((Rows.topRefusesRow.knobs == [])) = true := by kernel_rfl
theorem k8 : ((Tryz.prog.stopKnobs == [])) = true := by kernel_rfl
end Go.Proofs.YtnllmelmmcapcaaGreatDoor.topRefuses
