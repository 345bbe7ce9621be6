/- TopCaches, evaluated: what is alike for all answers, what is compared, how an answer is made. -/
import Derived.Test.YtnllmelmmcapcaaGreatDoorCaS
import Derived.KernelRfl
namespace Go.Proofs.YtnllmelmmcapcaaGreatDoor.Ev
open Go Go.RowKit
set_option linter.unusedVariables false
set_option maxRecDepth 1000000

theorem vF_0f : kF 0 false = some () := by kernel_rfl
theorem vF_0t : kF 0 true = some () := by kernel_rfl
theorem vF_1f : kF 1 false = some () := by kernel_rfl
theorem vF_1t : kF 1 true = some () := by kernel_rfl
theorem vF_2f : kF 2 false = some () := by kernel_rfl
theorem vF_2t : kF 2 true = some () := by kernel_rfl
theorem vF_3f : kF 3 false = some () := by kernel_rfl
theorem vF_3t : kF 3 true = some () := by kernel_rfl
theorem vF_4f : kF 4 false = some () := by kernel_rfl
theorem vF_4t : kF 4 true = some () := by kernel_rfl
theorem vF_5f : kF 5 false = some () := by kernel_rfl
theorem vF_5t : kF 5 true = some () := by kernel_rfl
theorem vF_6f : kF 6 false = some () := by kernel_rfl
theorem vF_6t : kF 6 true = some () := by kernel_rfl
theorem vF_7f : kF 7 false = some () := by kernel_rfl
theorem vF_7t : kF 7 true = some () := by kernel_rfl
theorem vF_8f : kF 8 false = some () := by kernel_rfl
theorem vF_8t : kF 8 true = some () := by kernel_rfl
theorem vF_9f : kF 9 false = some () := by kernel_rfl
theorem vF_9t : kF 9 true = some () := by kernel_rfl
theorem vF_10f : kF 10 false = some () := by kernel_rfl
theorem vF_10t : kF 10 true = some () := by kernel_rfl
theorem vF_11f : kF 11 false = some () := by kernel_rfl
theorem vF_11t : kF 11 true = some () := by kernel_rfl
theorem vF_12f : kF 12 false = some () := by kernel_rfl
theorem vF_12t : kF 12 true = some () := by kernel_rfl
theorem vF_13f : kF 13 false = some () := by kernel_rfl
theorem vF_13t : kF 13 true = some () := by kernel_rfl
theorem vF_14f : kF 14 false = some () := by kernel_rfl
theorem vF_14t : kF 14 true = some () := by kernel_rfl
theorem vF_15f : kF 15 false = some () := by kernel_rfl
theorem vF_15t : kF 15 true = some () := by kernel_rfl
theorem vF_16f : kF 16 false = some () := by kernel_rfl
theorem vF_16t : kF 16 true = some () := by kernel_rfl
theorem vF_17f : kF 17 false = some () := by kernel_rfl
theorem vF_17t : kF 17 true = some () := by kernel_rfl
theorem vF_18f : kF 18 false = some () := by kernel_rfl
theorem vF_18t : kF 18 true = some () := by kernel_rfl
theorem vF_19f : kF 19 false = some () := by kernel_rfl
theorem vF_19t : kF 19 true = some () := by kernel_rfl
theorem vF_20f : kF 20 false = some () := by kernel_rfl
theorem vF_20t : kF 20 true = some () := by kernel_rfl
theorem vF_21f : kF 21 false = some () := by kernel_rfl
theorem vF_21t : kF 21 true = some () := by kernel_rfl
theorem vF_22f : kF 22 false = some () := by kernel_rfl
theorem vF_22t : kF 22 true = some () := by kernel_rfl
theorem vF_23f : kF 23 false = some () := by kernel_rfl
theorem vF_23t : kF 23 true = some () := by kernel_rfl
theorem vF_24f : kF 24 false = some () := by kernel_rfl
theorem vF_24t : kF 24 true = some () := by kernel_rfl
theorem vF_25f : kF 25 false = some () := by kernel_rfl
theorem vF_25t : kF 25 true = some () := by kernel_rfl
theorem vF_26f : kF 26 false = some () := by kernel_rfl
theorem vF_26t : kF 26 true = some () := by kernel_rfl
theorem vF_27f : kF 27 false = some () := by kernel_rfl
theorem vF_27t : kF 27 true = some () := by kernel_rfl
theorem vF_28f : kF 28 false = some () := by kernel_rfl
theorem vF_28t : kF 28 true = some () := by kernel_rfl
theorem vF_29f : kF 29 false = some () := by kernel_rfl
theorem vF_29t : kF 29 true = some () := by kernel_rfl
theorem vF_30f : kF 30 false = some () := by kernel_rfl
theorem vF_30t : kF 30 true = some () := by kernel_rfl
theorem vF_31f : kF 31 false = some () := by kernel_rfl
theorem vF_31t : kF 31 true = some () := by kernel_rfl
theorem vF_32f : kF 32 false = some () := by kernel_rfl
theorem vF_32t : kF 32 true = some () := by kernel_rfl
theorem vF_33f : kF 33 false = some () := by kernel_rfl
theorem vF_33t : kF 33 true = some () := by kernel_rfl
theorem vF_34f : kF 34 false = some () := by kernel_rfl
theorem vF_34t : kF 34 true = some () := by kernel_rfl
theorem vF_35f : kF 35 false = some () := by kernel_rfl
theorem vF_35t : kF 35 true = some () := by kernel_rfl
theorem vF_36f : kF 36 false = some () := by kernel_rfl
theorem vF_36t : kF 36 true = some () := by kernel_rfl
theorem vF_37f : kF 37 false = some () := by kernel_rfl
theorem vF_37t : kF 37 true = some () := by kernel_rfl
theorem vF_38f : kF 38 false = some () := by kernel_rfl
theorem vF_38t : kF 38 true = some () := by kernel_rfl
theorem vF_39f : kF 39 false = some () := by kernel_rfl
theorem vF_39t : kF 39 true = some () := by kernel_rfl
theorem vF_40f : kF 40 false = some () := by kernel_rfl
theorem vF_40t : kF 40 true = some () := by kernel_rfl
theorem vF_0 (L : Nat) (h0 : 0 ≤ L) (h1 : L ≤ 40) (g : Bool) : kF L g = some () := by
  obtain ⟨i, rfl⟩ : ∃ i, L = 0 + i := ⟨L - 0, by omega⟩
  match i, g, h1 with
  | 0, false, _ => exact vF_0f
  | 0, true, _ => exact vF_0t
  | 1, false, _ => exact vF_1f
  | 1, true, _ => exact vF_1t
  | 2, false, _ => exact vF_2f
  | 2, true, _ => exact vF_2t
  | 3, false, _ => exact vF_3f
  | 3, true, _ => exact vF_3t
  | 4, false, _ => exact vF_4f
  | 4, true, _ => exact vF_4t
  | 5, false, _ => exact vF_5f
  | 5, true, _ => exact vF_5t
  | 6, false, _ => exact vF_6f
  | 6, true, _ => exact vF_6t
  | 7, false, _ => exact vF_7f
  | 7, true, _ => exact vF_7t
  | 8, false, _ => exact vF_8f
  | 8, true, _ => exact vF_8t
  | 9, false, _ => exact vF_9f
  | 9, true, _ => exact vF_9t
  | 10, false, _ => exact vF_10f
  | 10, true, _ => exact vF_10t
  | 11, false, _ => exact vF_11f
  | 11, true, _ => exact vF_11t
  | 12, false, _ => exact vF_12f
  | 12, true, _ => exact vF_12t
  | 13, false, _ => exact vF_13f
  | 13, true, _ => exact vF_13t
  | 14, false, _ => exact vF_14f
  | 14, true, _ => exact vF_14t
  | 15, false, _ => exact vF_15f
  | 15, true, _ => exact vF_15t
  | 16, false, _ => exact vF_16f
  | 16, true, _ => exact vF_16t
  | 17, false, _ => exact vF_17f
  | 17, true, _ => exact vF_17t
  | 18, false, _ => exact vF_18f
  | 18, true, _ => exact vF_18t
  | 19, false, _ => exact vF_19f
  | 19, true, _ => exact vF_19t
  | 20, false, _ => exact vF_20f
  | 20, true, _ => exact vF_20t
  | 21, false, _ => exact vF_21f
  | 21, true, _ => exact vF_21t
  | 22, false, _ => exact vF_22f
  | 22, true, _ => exact vF_22t
  | 23, false, _ => exact vF_23f
  | 23, true, _ => exact vF_23t
  | 24, false, _ => exact vF_24f
  | 24, true, _ => exact vF_24t
  | 25, false, _ => exact vF_25f
  | 25, true, _ => exact vF_25t
  | 26, false, _ => exact vF_26f
  | 26, true, _ => exact vF_26t
  | 27, false, _ => exact vF_27f
  | 27, true, _ => exact vF_27t
  | 28, false, _ => exact vF_28f
  | 28, true, _ => exact vF_28t
  | 29, false, _ => exact vF_29f
  | 29, true, _ => exact vF_29t
  | 30, false, _ => exact vF_30f
  | 30, true, _ => exact vF_30t
  | 31, false, _ => exact vF_31f
  | 31, true, _ => exact vF_31t
  | 32, false, _ => exact vF_32f
  | 32, true, _ => exact vF_32t
  | 33, false, _ => exact vF_33f
  | 33, true, _ => exact vF_33t
  | 34, false, _ => exact vF_34f
  | 34, true, _ => exact vF_34t
  | 35, false, _ => exact vF_35f
  | 35, true, _ => exact vF_35t
  | 36, false, _ => exact vF_36f
  | 36, true, _ => exact vF_36t
  | 37, false, _ => exact vF_37f
  | 37, true, _ => exact vF_37t
  | 38, false, _ => exact vF_38f
  | 38, true, _ => exact vF_38t
  | 39, false, _ => exact vF_39f
  | 39, true, _ => exact vF_39t
  | 40, false, _ => exact vF_40f
  | 40, true, _ => exact vF_40t
  | i + 41, _, h1 => exact absurd h1 (by omega)
theorem vB_0f : kB 0 false = some () := by kernel_rfl
theorem vB_0t : kB 0 true = some () := by kernel_rfl
theorem vB_1f : kB 1 false = some () := by kernel_rfl
theorem vB_1t : kB 1 true = some () := by kernel_rfl
theorem vB_2f : kB 2 false = some () := by kernel_rfl
theorem vB_2t : kB 2 true = some () := by kernel_rfl
theorem vB_3f : kB 3 false = some () := by kernel_rfl
theorem vB_3t : kB 3 true = some () := by kernel_rfl
theorem vB_4f : kB 4 false = some () := by kernel_rfl
theorem vB_4t : kB 4 true = some () := by kernel_rfl
theorem vB_5f : kB 5 false = some () := by kernel_rfl
theorem vB_5t : kB 5 true = some () := by kernel_rfl
theorem vB_6f : kB 6 false = some () := by kernel_rfl
theorem vB_6t : kB 6 true = some () := by kernel_rfl
theorem vB_7f : kB 7 false = some () := by kernel_rfl
theorem vB_7t : kB 7 true = some () := by kernel_rfl
theorem vB_8f : kB 8 false = some () := by kernel_rfl
theorem vB_8t : kB 8 true = some () := by kernel_rfl
theorem vB_9f : kB 9 false = some () := by kernel_rfl
theorem vB_9t : kB 9 true = some () := by kernel_rfl
theorem vB_10f : kB 10 false = some () := by kernel_rfl
theorem vB_10t : kB 10 true = some () := by kernel_rfl
theorem vB_11f : kB 11 false = some () := by kernel_rfl
theorem vB_11t : kB 11 true = some () := by kernel_rfl
theorem vB_12f : kB 12 false = some () := by kernel_rfl
theorem vB_12t : kB 12 true = some () := by kernel_rfl
theorem vB_13f : kB 13 false = some () := by kernel_rfl
theorem vB_13t : kB 13 true = some () := by kernel_rfl
theorem vB_14f : kB 14 false = some () := by kernel_rfl
theorem vB_14t : kB 14 true = some () := by kernel_rfl
theorem vB_15f : kB 15 false = some () := by kernel_rfl
theorem vB_15t : kB 15 true = some () := by kernel_rfl
theorem vB_16f : kB 16 false = some () := by kernel_rfl
theorem vB_16t : kB 16 true = some () := by kernel_rfl
theorem vB_17f : kB 17 false = some () := by kernel_rfl
theorem vB_17t : kB 17 true = some () := by kernel_rfl
theorem vB_18f : kB 18 false = some () := by kernel_rfl
theorem vB_18t : kB 18 true = some () := by kernel_rfl
theorem vB_19f : kB 19 false = some () := by kernel_rfl
theorem vB_19t : kB 19 true = some () := by kernel_rfl
theorem vB_20f : kB 20 false = some () := by kernel_rfl
theorem vB_20t : kB 20 true = some () := by kernel_rfl
theorem vB_21f : kB 21 false = some () := by kernel_rfl
theorem vB_21t : kB 21 true = some () := by kernel_rfl
theorem vB_22f : kB 22 false = some () := by kernel_rfl
theorem vB_22t : kB 22 true = some () := by kernel_rfl
theorem vB_23f : kB 23 false = some () := by kernel_rfl
theorem vB_23t : kB 23 true = some () := by kernel_rfl
theorem vB_24f : kB 24 false = some () := by kernel_rfl
theorem vB_24t : kB 24 true = some () := by kernel_rfl
theorem vB_25f : kB 25 false = some () := by kernel_rfl
theorem vB_25t : kB 25 true = some () := by kernel_rfl
theorem vB_26f : kB 26 false = some () := by kernel_rfl
theorem vB_26t : kB 26 true = some () := by kernel_rfl
theorem vB_27f : kB 27 false = some () := by kernel_rfl
theorem vB_27t : kB 27 true = some () := by kernel_rfl
theorem vB_28f : kB 28 false = some () := by kernel_rfl
theorem vB_28t : kB 28 true = some () := by kernel_rfl
theorem vB_29f : kB 29 false = some () := by kernel_rfl
theorem vB_29t : kB 29 true = some () := by kernel_rfl
theorem vB_30f : kB 30 false = some () := by kernel_rfl
theorem vB_30t : kB 30 true = some () := by kernel_rfl
theorem vB_31f : kB 31 false = some () := by kernel_rfl
theorem vB_31t : kB 31 true = some () := by kernel_rfl
theorem vB_32f : kB 32 false = some () := by kernel_rfl
theorem vB_32t : kB 32 true = some () := by kernel_rfl
theorem vB_33f : kB 33 false = some () := by kernel_rfl
theorem vB_33t : kB 33 true = some () := by kernel_rfl
theorem vB_34f : kB 34 false = some () := by kernel_rfl
theorem vB_34t : kB 34 true = some () := by kernel_rfl
theorem vB_35f : kB 35 false = some () := by kernel_rfl
theorem vB_35t : kB 35 true = some () := by kernel_rfl
theorem vB_36f : kB 36 false = some () := by kernel_rfl
theorem vB_36t : kB 36 true = some () := by kernel_rfl
theorem vB_37f : kB 37 false = some () := by kernel_rfl
theorem vB_37t : kB 37 true = some () := by kernel_rfl
theorem vB_38f : kB 38 false = some () := by kernel_rfl
theorem vB_38t : kB 38 true = some () := by kernel_rfl
theorem vB_39f : kB 39 false = some () := by kernel_rfl
theorem vB_39t : kB 39 true = some () := by kernel_rfl
theorem vB_40f : kB 40 false = some () := by kernel_rfl
theorem vB_40t : kB 40 true = some () := by kernel_rfl
theorem vB_0 (L : Nat) (h0 : 0 ≤ L) (h1 : L ≤ 40) (g : Bool) : kB L g = some () := by
  obtain ⟨i, rfl⟩ : ∃ i, L = 0 + i := ⟨L - 0, by omega⟩
  match i, g, h1 with
  | 0, false, _ => exact vB_0f
  | 0, true, _ => exact vB_0t
  | 1, false, _ => exact vB_1f
  | 1, true, _ => exact vB_1t
  | 2, false, _ => exact vB_2f
  | 2, true, _ => exact vB_2t
  | 3, false, _ => exact vB_3f
  | 3, true, _ => exact vB_3t
  | 4, false, _ => exact vB_4f
  | 4, true, _ => exact vB_4t
  | 5, false, _ => exact vB_5f
  | 5, true, _ => exact vB_5t
  | 6, false, _ => exact vB_6f
  | 6, true, _ => exact vB_6t
  | 7, false, _ => exact vB_7f
  | 7, true, _ => exact vB_7t
  | 8, false, _ => exact vB_8f
  | 8, true, _ => exact vB_8t
  | 9, false, _ => exact vB_9f
  | 9, true, _ => exact vB_9t
  | 10, false, _ => exact vB_10f
  | 10, true, _ => exact vB_10t
  | 11, false, _ => exact vB_11f
  | 11, true, _ => exact vB_11t
  | 12, false, _ => exact vB_12f
  | 12, true, _ => exact vB_12t
  | 13, false, _ => exact vB_13f
  | 13, true, _ => exact vB_13t
  | 14, false, _ => exact vB_14f
  | 14, true, _ => exact vB_14t
  | 15, false, _ => exact vB_15f
  | 15, true, _ => exact vB_15t
  | 16, false, _ => exact vB_16f
  | 16, true, _ => exact vB_16t
  | 17, false, _ => exact vB_17f
  | 17, true, _ => exact vB_17t
  | 18, false, _ => exact vB_18f
  | 18, true, _ => exact vB_18t
  | 19, false, _ => exact vB_19f
  | 19, true, _ => exact vB_19t
  | 20, false, _ => exact vB_20f
  | 20, true, _ => exact vB_20t
  | 21, false, _ => exact vB_21f
  | 21, true, _ => exact vB_21t
  | 22, false, _ => exact vB_22f
  | 22, true, _ => exact vB_22t
  | 23, false, _ => exact vB_23f
  | 23, true, _ => exact vB_23t
  | 24, false, _ => exact vB_24f
  | 24, true, _ => exact vB_24t
  | 25, false, _ => exact vB_25f
  | 25, true, _ => exact vB_25t
  | 26, false, _ => exact vB_26f
  | 26, true, _ => exact vB_26t
  | 27, false, _ => exact vB_27f
  | 27, true, _ => exact vB_27t
  | 28, false, _ => exact vB_28f
  | 28, true, _ => exact vB_28t
  | 29, false, _ => exact vB_29f
  | 29, true, _ => exact vB_29t
  | 30, false, _ => exact vB_30f
  | 30, true, _ => exact vB_30t
  | 31, false, _ => exact vB_31f
  | 31, true, _ => exact vB_31t
  | 32, false, _ => exact vB_32f
  | 32, true, _ => exact vB_32t
  | 33, false, _ => exact vB_33f
  | 33, true, _ => exact vB_33t
  | 34, false, _ => exact vB_34f
  | 34, true, _ => exact vB_34t
  | 35, false, _ => exact vB_35f
  | 35, true, _ => exact vB_35t
  | 36, false, _ => exact vB_36f
  | 36, true, _ => exact vB_36t
  | 37, false, _ => exact vB_37f
  | 37, true, _ => exact vB_37t
  | 38, false, _ => exact vB_38f
  | 38, true, _ => exact vB_38t
  | 39, false, _ => exact vB_39f
  | 39, true, _ => exact vB_39t
  | 40, false, _ => exact vB_40f
  | 40, true, _ => exact vB_40t
  | i + 41, _, h1 => exact absurd h1 (by omega)
theorem vU1 (x : Var) : kU1 x = some (inT (tlD x), inT tlR3, inT (S3 x), n3) := by kernel_rfl
theorem vU2 (x : Var) : kU2 x = some (inT (tlE x), [], inT (S5 x), n5) := by kernel_rfl
theorem vA : kA = some () := by kernel_rfl
end Go.Proofs.YtnllmelmmcapcaaGreatDoor.Ev
