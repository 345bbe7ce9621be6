/- TopCaches, evaluated: the second client gets it, for answers of 31 to 40 bytes. -/
import Derived.Test.YtnllmelmmcapcaaGreatDoorCaS
import Derived.KernelRfl
namespace Go.Proofs.YtnllmelmmcapcaaGreatDoor.Ev
open Go Go.RowKit
set_option linter.unusedVariables false
set_option maxRecDepth 1000000

theorem v2_31f : kV2 31 false = some () := by kernel_rfl
theorem v2_31t : kV2 31 true = some () := by kernel_rfl
theorem v2_32f : kV2 32 false = some () := by kernel_rfl
theorem v2_32t : kV2 32 true = some () := by kernel_rfl
theorem v2_33f : kV2 33 false = some () := by kernel_rfl
theorem v2_33t : kV2 33 true = some () := by kernel_rfl
theorem v2_34f : kV2 34 false = some () := by kernel_rfl
theorem v2_34t : kV2 34 true = some () := by kernel_rfl
theorem v2_35f : kV2 35 false = some () := by kernel_rfl
theorem v2_35t : kV2 35 true = some () := by kernel_rfl
theorem v2_36f : kV2 36 false = some () := by kernel_rfl
theorem v2_36t : kV2 36 true = some () := by kernel_rfl
theorem v2_37f : kV2 37 false = some () := by kernel_rfl
theorem v2_37t : kV2 37 true = some () := by kernel_rfl
theorem v2_38f : kV2 38 false = some () := by kernel_rfl
theorem v2_38t : kV2 38 true = some () := by kernel_rfl
theorem v2_39f : kV2 39 false = some () := by kernel_rfl
theorem v2_39t : kV2 39 true = some () := by kernel_rfl
theorem v2_40f : kV2 40 false = some () := by kernel_rfl
theorem v2_40t : kV2 40 true = some () := by kernel_rfl
theorem v2_31 (L : Nat) (h0 : 31 ≤ L) (h1 : L ≤ 40) (g : Bool) : kV2 L g = some () := by
  obtain ⟨i, rfl⟩ : ∃ i, L = 31 + i := ⟨L - 31, by omega⟩
  match i, g, h1 with
  | 0, false, _ => exact v2_31f
  | 0, true, _ => exact v2_31t
  | 1, false, _ => exact v2_32f
  | 1, true, _ => exact v2_32t
  | 2, false, _ => exact v2_33f
  | 2, true, _ => exact v2_33t
  | 3, false, _ => exact v2_34f
  | 3, true, _ => exact v2_34t
  | 4, false, _ => exact v2_35f
  | 4, true, _ => exact v2_35t
  | 5, false, _ => exact v2_36f
  | 5, true, _ => exact v2_36t
  | 6, false, _ => exact v2_37f
  | 6, true, _ => exact v2_37t
  | 7, false, _ => exact v2_38f
  | 7, true, _ => exact v2_38t
  | 8, false, _ => exact v2_39f
  | 8, true, _ => exact v2_39t
  | 9, false, _ => exact v2_40f
  | 9, true, _ => exact v2_40t
  | i + 10, _, h1 => exact absurd h1 (by omega)
end Go.Proofs.YtnllmelmmcapcaaGreatDoor.Ev
