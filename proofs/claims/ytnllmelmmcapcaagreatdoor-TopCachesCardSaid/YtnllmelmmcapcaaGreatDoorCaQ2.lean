/- TopCaches, evaluated: the second client gets it, for answers of 21 to 30 bytes. -/
import Derived.Test.YtnllmelmmcapcaaGreatDoorCaS
import Derived.KernelRfl
namespace Go.Proofs.YtnllmelmmcapcaaGreatDoor.Ev
open Go Go.RowKit
set_option linter.unusedVariables false
set_option maxRecDepth 1000000

theorem v2_21f : kV2 21 false = some () := by kernel_rfl
theorem v2_21t : kV2 21 true = some () := by kernel_rfl
theorem v2_22f : kV2 22 false = some () := by kernel_rfl
theorem v2_22t : kV2 22 true = some () := by kernel_rfl
theorem v2_23f : kV2 23 false = some () := by kernel_rfl
theorem v2_23t : kV2 23 true = some () := by kernel_rfl
theorem v2_24f : kV2 24 false = some () := by kernel_rfl
theorem v2_24t : kV2 24 true = some () := by kernel_rfl
theorem v2_25f : kV2 25 false = some () := by kernel_rfl
theorem v2_25t : kV2 25 true = some () := by kernel_rfl
theorem v2_26f : kV2 26 false = some () := by kernel_rfl
theorem v2_26t : kV2 26 true = some () := by kernel_rfl
theorem v2_27f : kV2 27 false = some () := by kernel_rfl
theorem v2_27t : kV2 27 true = some () := by kernel_rfl
theorem v2_28f : kV2 28 false = some () := by kernel_rfl
theorem v2_28t : kV2 28 true = some () := by kernel_rfl
theorem v2_29f : kV2 29 false = some () := by kernel_rfl
theorem v2_29t : kV2 29 true = some () := by kernel_rfl
theorem v2_30f : kV2 30 false = some () := by kernel_rfl
theorem v2_30t : kV2 30 true = some () := by kernel_rfl
theorem v2_21 (L : Nat) (h0 : 21 ≤ L) (h1 : L ≤ 30) (g : Bool) : kV2 L g = some () := by
  obtain ⟨i, rfl⟩ : ∃ i, L = 21 + i := ⟨L - 21, by omega⟩
  match i, g, h1 with
  | 0, false, _ => exact v2_21f
  | 0, true, _ => exact v2_21t
  | 1, false, _ => exact v2_22f
  | 1, true, _ => exact v2_22t
  | 2, false, _ => exact v2_23f
  | 2, true, _ => exact v2_23t
  | 3, false, _ => exact v2_24f
  | 3, true, _ => exact v2_24t
  | 4, false, _ => exact v2_25f
  | 4, true, _ => exact v2_25t
  | 5, false, _ => exact v2_26f
  | 5, true, _ => exact v2_26t
  | 6, false, _ => exact v2_27f
  | 6, true, _ => exact v2_27t
  | 7, false, _ => exact v2_28f
  | 7, true, _ => exact v2_28t
  | 8, false, _ => exact v2_29f
  | 8, true, _ => exact v2_29t
  | 9, false, _ => exact v2_30f
  | 9, true, _ => exact v2_30t
  | i + 10, _, h1 => exact absurd h1 (by omega)
end Go.Proofs.YtnllmelmmcapcaaGreatDoor.Ev
