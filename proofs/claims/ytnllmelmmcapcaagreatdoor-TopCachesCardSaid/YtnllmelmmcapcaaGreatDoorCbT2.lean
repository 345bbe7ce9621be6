/- The listed variables' tie to the program's text: that it lies apart. -/
import Derived.Test.YtnllmelmmcapcaaGreatDoorCbT0
import Derived.LaidByTextLater
import Derived.SevenTiedAt
namespace Go.Proofs.YtnllmelmmcapcaaGreatDoor.topCaches
open Go
set_option linter.unusedVariables false
theorem tie_h2 : ∀ os tape, (DataW.laidRun Tryz.prog (varsWorld Tryz.prog 400 (varsId Tryz.prog) os tape).memory 8 (laidL.map (·.1))).map (fun x => decide x.2.Nodup && laidRowsB Tryz.prog (varsWorld Tryz.prog 400 (varsId Tryz.prog) os tape).memory x.2) = some true := fun _ _ => by kernel_rfl
end Go.Proofs.YtnllmelmmcapcaaGreatDoor.topCaches
