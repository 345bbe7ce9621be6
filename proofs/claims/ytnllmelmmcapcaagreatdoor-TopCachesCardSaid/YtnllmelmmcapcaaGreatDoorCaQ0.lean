/- TopCaches, evaluated: the second client gets it, for answers of 0 to 10 bytes. -/
import Derived.Test.YtnllmelmmcapcaaGreatDoorCaS
import Derived.KernelRfl
namespace Go.Proofs.YtnllmelmmcapcaaGreatDoor.Ev
open Go Go.RowKit
set_option linter.unusedVariables false
set_option maxRecDepth 1000000

theorem v2_0f : kV2 0 false = some () := by kernel_rfl
theorem v2_0t : kV2 0 true = some () := by kernel_rfl
theorem v2_1f : kV2 1 false = some () := by kernel_rfl
theorem v2_1t : kV2 1 true = some () := by kernel_rfl
theorem v2_2f : kV2 2 false = some () := by kernel_rfl
theorem v2_2t : kV2 2 true = some () := by kernel_rfl
theorem v2_3f : kV2 3 false = some () := by kernel_rfl
theorem v2_3t : kV2 3 true = some () := by kernel_rfl
theorem v2_4f : kV2 4 false = some () := by kernel_rfl
theorem v2_4t : kV2 4 true = some () := by kernel_rfl
theorem v2_5f : kV2 5 false = some () := by kernel_rfl
theorem v2_5t : kV2 5 true = some () := by kernel_rfl
theorem v2_6f : kV2 6 false = some () := by kernel_rfl
theorem v2_6t : kV2 6 true = some () := by kernel_rfl
theorem v2_7f : kV2 7 false = some () := by kernel_rfl
theorem v2_7t : kV2 7 true = some () := by kernel_rfl
theorem v2_8f : kV2 8 false = some () := by kernel_rfl
theorem v2_8t : kV2 8 true = some () := by kernel_rfl
theorem v2_9f : kV2 9 false = some () := by kernel_rfl
theorem v2_9t : kV2 9 true = some () := by kernel_rfl
theorem v2_10f : kV2 10 false = some () := by kernel_rfl
theorem v2_10t : kV2 10 true = some () := by kernel_rfl
theorem v2_0 (L : Nat) (h0 : 0 ≤ L) (h1 : L ≤ 10) (g : Bool) : kV2 L g = some () := by
  obtain ⟨i, rfl⟩ : ∃ i, L = 0 + i := ⟨L - 0, by omega⟩
  match i, g, h1 with
  | 0, false, _ => exact v2_0f
  | 0, true, _ => exact v2_0t
  | 1, false, _ => exact v2_1f
  | 1, true, _ => exact v2_1t
  | 2, false, _ => exact v2_2f
  | 2, true, _ => exact v2_2t
  | 3, false, _ => exact v2_3f
  | 3, true, _ => exact v2_3t
  | 4, false, _ => exact v2_4f
  | 4, true, _ => exact v2_4t
  | 5, false, _ => exact v2_5f
  | 5, true, _ => exact v2_5t
  | 6, false, _ => exact v2_6f
  | 6, true, _ => exact v2_6t
  | 7, false, _ => exact v2_7f
  | 7, true, _ => exact v2_7t
  | 8, false, _ => exact v2_8f
  | 8, true, _ => exact v2_8t
  | 9, false, _ => exact v2_9f
  | 9, true, _ => exact v2_9t
  | 10, false, _ => exact v2_10f
  | 10, true, _ => exact v2_10t
  | i + 11, _, h1 => exact absurd h1 (by omega)
end Go.Proofs.YtnllmelmmcapcaaGreatDoor.Ev
