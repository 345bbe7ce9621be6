/- TopCaches, evaluated: the answer comes and is handed on, kept, for answers of 0 to 10 bytes. -/
import Derived.Test.YtnllmelmmcapcaaGreatDoorCaS
import Derived.KernelRfl
namespace Go.Proofs.YtnllmelmmcapcaaGreatDoor.Ev
open Go Go.RowKit
set_option linter.unusedVariables false
set_option maxRecDepth 1000000

theorem v1_0f : kV1 0 false = some () := by kernel_rfl
theorem v1_0t : kV1 0 true = some () := by kernel_rfl
theorem v1_1f : kV1 1 false = some () := by kernel_rfl
theorem v1_1t : kV1 1 true = some () := by kernel_rfl
theorem v1_2f : kV1 2 false = some () := by kernel_rfl
theorem v1_2t : kV1 2 true = some () := by kernel_rfl
theorem v1_3f : kV1 3 false = some () := by kernel_rfl
theorem v1_3t : kV1 3 true = some () := by kernel_rfl
theorem v1_4f : kV1 4 false = some () := by kernel_rfl
theorem v1_4t : kV1 4 true = some () := by kernel_rfl
theorem v1_5f : kV1 5 false = some () := by kernel_rfl
theorem v1_5t : kV1 5 true = some () := by kernel_rfl
theorem v1_6f : kV1 6 false = some () := by kernel_rfl
theorem v1_6t : kV1 6 true = some () := by kernel_rfl
theorem v1_7f : kV1 7 false = some () := by kernel_rfl
theorem v1_7t : kV1 7 true = some () := by kernel_rfl
theorem v1_8f : kV1 8 false = some () := by kernel_rfl
theorem v1_8t : kV1 8 true = some () := by kernel_rfl
theorem v1_9f : kV1 9 false = some () := by kernel_rfl
theorem v1_9t : kV1 9 true = some () := by kernel_rfl
theorem v1_10f : kV1 10 false = some () := by kernel_rfl
theorem v1_10t : kV1 10 true = some () := by kernel_rfl
theorem v1_0 (L : Nat) (h0 : 0 ≤ L) (h1 : L ≤ 10) (g : Bool) : kV1 L g = some () := by
  obtain ⟨i, rfl⟩ : ∃ i, L = 0 + i := ⟨L - 0, by omega⟩
  match i, g, h1 with
  | 0, false, _ => exact v1_0f
  | 0, true, _ => exact v1_0t
  | 1, false, _ => exact v1_1f
  | 1, true, _ => exact v1_1t
  | 2, false, _ => exact v1_2f
  | 2, true, _ => exact v1_2t
  | 3, false, _ => exact v1_3f
  | 3, true, _ => exact v1_3t
  | 4, false, _ => exact v1_4f
  | 4, true, _ => exact v1_4t
  | 5, false, _ => exact v1_5f
  | 5, true, _ => exact v1_5t
  | 6, false, _ => exact v1_6f
  | 6, true, _ => exact v1_6t
  | 7, false, _ => exact v1_7f
  | 7, true, _ => exact v1_7t
  | 8, false, _ => exact v1_8f
  | 8, true, _ => exact v1_8t
  | 9, false, _ => exact v1_9f
  | 9, true, _ => exact v1_9t
  | 10, false, _ => exact v1_10f
  | 10, true, _ => exact v1_10t
  | i + 11, _, h1 => exact absurd h1 (by omega)
end Go.Proofs.YtnllmelmmcapcaaGreatDoor.Ev
