/- TopCaches, evaluated: the second client gets it, for answers of 11 to 20 bytes. -/
import Derived.Test.YtnllmelmmcapcaaGreatDoorCaS
import Derived.KernelRfl
namespace Go.Proofs.YtnllmelmmcapcaaGreatDoor.Ev
open Go Go.RowKit
set_option linter.unusedVariables false
set_option maxRecDepth 1000000

theorem v2_11f : kV2 11 false = some () := by kernel_rfl
theorem v2_11t : kV2 11 true = some () := by kernel_rfl
theorem v2_12f : kV2 12 false = some () := by kernel_rfl
theorem v2_12t : kV2 12 true = some () := by kernel_rfl
theorem v2_13f : kV2 13 false = some () := by kernel_rfl
theorem v2_13t : kV2 13 true = some () := by kernel_rfl
theorem v2_14f : kV2 14 false = some () := by kernel_rfl
theorem v2_14t : kV2 14 true = some () := by kernel_rfl
theorem v2_15f : kV2 15 false = some () := by kernel_rfl
theorem v2_15t : kV2 15 true = some () := by kernel_rfl
theorem v2_16f : kV2 16 false = some () := by kernel_rfl
theorem v2_16t : kV2 16 true = some () := by kernel_rfl
theorem v2_17f : kV2 17 false = some () := by kernel_rfl
theorem v2_17t : kV2 17 true = some () := by kernel_rfl
theorem v2_18f : kV2 18 false = some () := by kernel_rfl
theorem v2_18t : kV2 18 true = some () := by kernel_rfl
theorem v2_19f : kV2 19 false = some () := by kernel_rfl
theorem v2_19t : kV2 19 true = some () := by kernel_rfl
theorem v2_20f : kV2 20 false = some () := by kernel_rfl
theorem v2_20t : kV2 20 true = some () := by kernel_rfl
theorem v2_11 (L : Nat) (h0 : 11 ≤ L) (h1 : L ≤ 20) (g : Bool) : kV2 L g = some () := by
  obtain ⟨i, rfl⟩ : ∃ i, L = 11 + i := ⟨L - 11, by omega⟩
  match i, g, h1 with
  | 0, false, _ => exact v2_11f
  | 0, true, _ => exact v2_11t
  | 1, false, _ => exact v2_12f
  | 1, true, _ => exact v2_12t
  | 2, false, _ => exact v2_13f
  | 2, true, _ => exact v2_13t
  | 3, false, _ => exact v2_14f
  | 3, true, _ => exact v2_14t
  | 4, false, _ => exact v2_15f
  | 4, true, _ => exact v2_15t
  | 5, false, _ => exact v2_16f
  | 5, true, _ => exact v2_16t
  | 6, false, _ => exact v2_17f
  | 6, true, _ => exact v2_17t
  | 7, false, _ => exact v2_18f
  | 7, true, _ => exact v2_18t
  | 8, false, _ => exact v2_19f
  | 8, true, _ => exact v2_19t
  | 9, false, _ => exact v2_20f
  | 9, true, _ => exact v2_20t
  | i + 10, _, h1 => exact absurd h1 (by omega)
end Go.Proofs.YtnllmelmmcapcaaGreatDoor.Ev
