/- TopCaches: the row's closed facts, one by one. -/
import Derived.Test.YtnllmelmmcapcaaGreatDoorRows
import Derived.ProofKit
import Derived.Stop.Joined
namespace Go.Proofs.YtnllmelmmcapcaaGreatDoor.topCaches
open Go
set_option linter.unusedVariables false
theorem k11 : ((Rows.topCachesRow.recurses == Tryz.prog.recurses 3)) = true := by kernel_rfl
theorem k12 : ((Rows.topCachesRow.named == Tryz.prog.varsNamed 3)) = true := by kernel_rfl
theorem k13 : ((Rows.topCachesRow.maps == (Tryz.f3.params.toList ++ Rows.topCachesSpec.plain.varTypes Tryz.prog).any (Tryz.prog.mapsRec ·))) = true := by kernel_rfl
end Go.Proofs.YtnllmelmmcapcaaGreatDoor.topCaches
