/- TopRefuses: the row's closed facts, one by one. -/
import Derived.Test.YtnllmelmmcapcaaGreatDoorRows
import Derived.ProofKit
import Derived.Stop.Joined
namespace Go.Proofs.YtnllmelmmcapcaaGreatDoor.topRefuses
open Go
set_option linter.unusedVariables false
theorem k11 : ((Rows.topRefusesRow.recurses == Tryz.prog.recurses 4)) = true := by kernel_rfl
theorem k12 : ((Rows.topRefusesRow.named == Tryz.prog.varsNamed 4)) = true := by kernel_rfl
theorem k13 : ((Rows.topRefusesRow.maps == (Tryz.f4.params.toList ++ Rows.topRefusesSpec.plain.varTypes Tryz.prog).any (Tryz.prog.mapsRec ·))) = true := by kernel_rfl
end Go.Proofs.YtnllmelmmcapcaaGreatDoor.topRefuses
