/- TopCaches, evaluated: the answer comes and is handed on, kept, for answers of 21 to 30 bytes. -/
import Derived.Test.YtnllmelmmcapcaaGreatDoorCaS
import Derived.KernelRfl
namespace Go.Proofs.YtnllmelmmcapcaaGreatDoor.Ev
open Go Go.RowKit
set_option linter.unusedVariables false
set_option maxRecDepth 1000000

theorem v1_21f : kV1 21 false = some () := by kernel_rfl
theorem v1_21t : kV1 21 true = some () := by kernel_rfl
theorem v1_22f : kV1 22 false = some () := by kernel_rfl
theorem v1_22t : kV1 22 true = some () := by kernel_rfl
theorem v1_23f : kV1 23 false = some () := by kernel_rfl
theorem v1_23t : kV1 23 true = some () := by kernel_rfl
theorem v1_24f : kV1 24 false = some () := by kernel_rfl
theorem v1_24t : kV1 24 true = some () := by kernel_rfl
theorem v1_25f : kV1 25 false = some () := by kernel_rfl
theorem v1_25t : kV1 25 true = some () := by kernel_rfl
theorem v1_26f : kV1 26 false = some () := by kernel_rfl
theorem v1_26t : kV1 26 true = some () := by kernel_rfl
theorem v1_27f : kV1 27 false = some () := by kernel_rfl
theorem v1_27t : kV1 27 true = some () := by kernel_rfl
theorem v1_28f : kV1 28 false = some () := by kernel_rfl
theorem v1_28t : kV1 28 true = some () := by kernel_rfl
theorem v1_29f : kV1 29 false = some () := by kernel_rfl
theorem v1_29t : kV1 29 true = some () := by kernel_rfl
theorem v1_30f : kV1 30 false = some () := by kernel_rfl
theorem v1_30t : kV1 30 true = some () := by kernel_rfl
theorem v1_21 (L : Nat) (h0 : 21 ≤ L) (h1 : L ≤ 30) (g : Bool) : kV1 L g = some () := by
  obtain ⟨i, rfl⟩ : ∃ i, L = 21 + i := ⟨L - 21, by omega⟩
  match i, g, h1 with
  | 0, false, _ => exact v1_21f
  | 0, true, _ => exact v1_21t
  | 1, false, _ => exact v1_22f
  | 1, true, _ => exact v1_22t
  | 2, false, _ => exact v1_23f
  | 2, true, _ => exact v1_23t
  | 3, false, _ => exact v1_24f
  | 3, true, _ => exact v1_24t
  | 4, false, _ => exact v1_25f
  | 4, true, _ => exact v1_25t
  | 5, false, _ => exact v1_26f
  | 5, true, _ => exact v1_26t
  | 6, false, _ => exact v1_27f
  | 6, true, _ => exact v1_27t
  | 7, false, _ => exact v1_28f
  | 7, true, _ => exact v1_28t
  | 8, false, _ => exact v1_29f
  | 8, true, _ => exact v1_29t
  | 9, false, _ => exact v1_30f
  | 9, true, _ => exact v1_30t
  | i + 10, _, h1 => exact absurd h1 (by omega)
end Go.Proofs.YtnllmelmmcapcaaGreatDoor.Ev
