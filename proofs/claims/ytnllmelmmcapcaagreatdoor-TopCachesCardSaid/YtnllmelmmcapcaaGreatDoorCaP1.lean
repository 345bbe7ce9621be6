/- TopCaches, evaluated: the answer comes and is handed on, kept, for answers of 11 to 20 bytes. -/
import Derived.Test.YtnllmelmmcapcaaGreatDoorCaS
import Derived.KernelRfl
namespace Go.Proofs.YtnllmelmmcapcaaGreatDoor.Ev
open Go Go.RowKit
set_option linter.unusedVariables false
set_option maxRecDepth 1000000

theorem v1_11f : kV1 11 false = some () := by kernel_rfl
theorem v1_11t : kV1 11 true = some () := by kernel_rfl
theorem v1_12f : kV1 12 false = some () := by kernel_rfl
theorem v1_12t : kV1 12 true = some () := by kernel_rfl
theorem v1_13f : kV1 13 false = some () := by kernel_rfl
theorem v1_13t : kV1 13 true = some () := by kernel_rfl
theorem v1_14f : kV1 14 false = some () := by kernel_rfl
theorem v1_14t : kV1 14 true = some () := by kernel_rfl
theorem v1_15f : kV1 15 false = some () := by kernel_rfl
theorem v1_15t : kV1 15 true = some () := by kernel_rfl
theorem v1_16f : kV1 16 false = some () := by kernel_rfl
theorem v1_16t : kV1 16 true = some () := by kernel_rfl
theorem v1_17f : kV1 17 false = some () := by kernel_rfl
theorem v1_17t : kV1 17 true = some () := by kernel_rfl
theorem v1_18f : kV1 18 false = some () := by kernel_rfl
theorem v1_18t : kV1 18 true = some () := by kernel_rfl
theorem v1_19f : kV1 19 false = some () := by kernel_rfl
theorem v1_19t : kV1 19 true = some () := by kernel_rfl
theorem v1_20f : kV1 20 false = some () := by kernel_rfl
theorem v1_20t : kV1 20 true = some () := by kernel_rfl
theorem v1_11 (L : Nat) (h0 : 11 ≤ L) (h1 : L ≤ 20) (g : Bool) : kV1 L g = some () := by
  obtain ⟨i, rfl⟩ : ∃ i, L = 11 + i := ⟨L - 11, by omega⟩
  match i, g, h1 with
  | 0, false, _ => exact v1_11f
  | 0, true, _ => exact v1_11t
  | 1, false, _ => exact v1_12f
  | 1, true, _ => exact v1_12t
  | 2, false, _ => exact v1_13f
  | 2, true, _ => exact v1_13t
  | 3, false, _ => exact v1_14f
  | 3, true, _ => exact v1_14t
  | 4, false, _ => exact v1_15f
  | 4, true, _ => exact v1_15t
  | 5, false, _ => exact v1_16f
  | 5, true, _ => exact v1_16t
  | 6, false, _ => exact v1_17f
  | 6, true, _ => exact v1_17t
  | 7, false, _ => exact v1_18f
  | 7, true, _ => exact v1_18t
  | 8, false, _ => exact v1_19f
  | 8, true, _ => exact v1_19t
  | 9, false, _ => exact v1_20f
  | 9, true, _ => exact v1_20t
  | i + 10, _, h1 => exact absurd h1 (by omega)
end Go.Proofs.YtnllmelmmcapcaaGreatDoor.Ev
