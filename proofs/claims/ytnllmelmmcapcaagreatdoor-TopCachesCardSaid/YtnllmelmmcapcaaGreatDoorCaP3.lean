/- TopCaches, evaluated: the answer comes and is handed on, kept, for answers of 31 to 40 bytes. -/
import Derived.Test.YtnllmelmmcapcaaGreatDoorCaS
import Derived.KernelRfl
namespace Go.Proofs.YtnllmelmmcapcaaGreatDoor.Ev
open Go Go.RowKit
set_option linter.unusedVariables false
set_option maxRecDepth 1000000

theorem v1_31f : kV1 31 false = some () := by kernel_rfl
theorem v1_31t : kV1 31 true = some () := by kernel_rfl
theorem v1_32f : kV1 32 false = some () := by kernel_rfl
theorem v1_32t : kV1 32 true = some () := by kernel_rfl
theorem v1_33f : kV1 33 false = some () := by kernel_rfl
theorem v1_33t : kV1 33 true = some () := by kernel_rfl
theorem v1_34f : kV1 34 false = some () := by kernel_rfl
theorem v1_34t : kV1 34 true = some () := by kernel_rfl
theorem v1_35f : kV1 35 false = some () := by kernel_rfl
theorem v1_35t : kV1 35 true = some () := by kernel_rfl
theorem v1_36f : kV1 36 false = some () := by kernel_rfl
theorem v1_36t : kV1 36 true = some () := by kernel_rfl
theorem v1_37f : kV1 37 false = some () := by kernel_rfl
theorem v1_37t : kV1 37 true = some () := by kernel_rfl
theorem v1_38f : kV1 38 false = some () := by kernel_rfl
theorem v1_38t : kV1 38 true = some () := by kernel_rfl
theorem v1_39f : kV1 39 false = some () := by kernel_rfl
theorem v1_39t : kV1 39 true = some () := by kernel_rfl
theorem v1_40f : kV1 40 false = some () := by kernel_rfl
theorem v1_40t : kV1 40 true = some () := by kernel_rfl
theorem v1_31 (L : Nat) (h0 : 31 ≤ L) (h1 : L ≤ 40) (g : Bool) : kV1 L g = some () := by
  obtain ⟨i, rfl⟩ : ∃ i, L = 31 + i := ⟨L - 31, by omega⟩
  match i, g, h1 with
  | 0, false, _ => exact v1_31f
  | 0, true, _ => exact v1_31t
  | 1, false, _ => exact v1_32f
  | 1, true, _ => exact v1_32t
  | 2, false, _ => exact v1_33f
  | 2, true, _ => exact v1_33t
  | 3, false, _ => exact v1_34f
  | 3, true, _ => exact v1_34t
  | 4, false, _ => exact v1_35f
  | 4, true, _ => exact v1_35t
  | 5, false, _ => exact v1_36f
  | 5, true, _ => exact v1_36t
  | 6, false, _ => exact v1_37f
  | 6, true, _ => exact v1_37t
  | 7, false, _ => exact v1_38f
  | 7, true, _ => exact v1_38t
  | 8, false, _ => exact v1_39f
  | 8, true, _ => exact v1_39t
  | 9, false, _ => exact v1_40f
  | 9, true, _ => exact v1_40t
  | i + 10, _, h1 => exact absurd h1 (by omega)
end Go.Proofs.YtnllmelmmcapcaaGreatDoor.Ev
