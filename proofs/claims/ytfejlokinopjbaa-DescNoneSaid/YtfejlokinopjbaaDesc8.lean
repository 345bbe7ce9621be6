/- A table that no call made: the walk of the law DescNone. -/
import Derived.Test.YtfejlokinopjbaaDesc7
namespace Go.Proofs.Ytfejlokinopjbaa
open Go Go.RowKit
set_option linter.unusedVariables false

theorem NoTab.upd {w w1 : World} {p : Value} (h : NoTab w p) (hU : Upd [] w w1) : NoTab w1 p := by
  rcases h with rfl | ⟨b, rfl, h5⟩
  · exact Or.inl rfl
  · exact Or.inr ⟨b, rfl, by rw [hU.cell (World.block_lt_of_cell? w _ h5) (by simp)]; exact h5⟩

set_option maxHeartbeats 1000000 in
set_option maxRecDepth 100000 in
theorem descNone_law (w : World) (ix gen : Int) : Calls Try.prog 6 #[.agg #[.int .i64 ix, .int .i64 gen]] w (Fine w (.bool true)) := by
  have hU : Upd [] w (w.alloc (.cells #[.int .i64 ix, .int .i64 gen] 30)) := (Upd.refl _ _).alloc _
  have B := blk_new' w 30 #[.int .i64 ix, .int .i64 gen]
  go_enter Try.func6, Try.ntmps6
  go_wp2_with fail
  generalize w.heap.size = H at *
  generalize w.alloc (.cells #[.int .i64 ix, .int .i64 gen] 30) = w0 at *
  refine (desc_works _).mono ?_
  rintro e w1 ⟨rfl, k⟩
  have hU := hU.trans_same k
  have B := B.upd k (by simp)
  clear k
  go_wp2_with fail
  have k : Upd [] w1 (w1.alloc (.cells #[.slice none 0 0, .int .i64 0, .bool false] 54)) := (Upd.refl _ _).alloc _
  have hS : NoTab (w1.alloc (.cells #[.slice none 0 0, .int .i64 0, .bool false] 54)) (.pointer (some ⟨w1.heap.size, 0, none⟩)) := Or.inr ⟨_, rfl, by simp⟩
  have hU := hU.trans_same k
  have B := B.upd k (by simp)
  clear k
  generalize w1.heap.size = Z at *
  generalize w1.alloc (.cells #[.slice none 0 0, .int .i64 0, .bool false] 54) = w2 at *
  refine (none_open _ _ _ _ (Or.inl rfl)).mono ?_
  rintro e w3 ⟨rfl, k⟩
  have hU := hU.trans_same k
  have B := B.upd k (by simp)
  have hS := hS.upd k
  clear k
  go_wp2_with fail
  have k : Upd [] w3 (w3.alloc (.cells #[.int .i64 0, .int .i64 0] 30)) := (Upd.refl _ _).alloc _
  have hU := hU.trans_same k
  have B := B.upd k (by simp)
  have hS := hS.upd k
  clear k
  generalize w3.alloc (.cells #[.int .i64 0, .int .i64 0] 30) = w4 at *
  refine (none_open _ _ _ _ hS).mono ?_
  rintro e w5 ⟨rfl, k⟩
  have hU := hU.trans_same k
  have B := B.upd k (by simp)
  have hS := hS.upd k
  clear k
  have k : Upd [] w5 (w5.alloc (.cells #[.int .i64 0, .int .i64 0] 30)) := (Upd.refl _ _).alloc _
  have B' := B.upd k (by simp)
  have x0 := B'.cell (i := 0) rfl
  have x1 := B'.cell (i := 1) rfl
  go_wp2_with fail
  have hU := hU.trans_same k
  have B := B.upd k (by simp)
  have hS := hS.upd k
  clear k x0 x1 B'
  generalize w5.alloc (.cells #[.int .i64 0, .int .i64 0] 30) = w6 at *
  refine (none_lookup _ _ _ _ (Or.inl rfl)).mono ?_
  rintro e w7 ⟨rfl, k⟩
  have hU := hU.trans_same k
  have B := B.upd k (by simp)
  have hS := hS.upd k
  clear k
  have x0 := B.cell (i := 0) rfl
  have x1 := B.cell (i := 1) rfl
  go_wp2_with fail
  refine (none_lookup _ _ _ _ hS).mono ?_
  rintro e w8 ⟨rfl, k⟩
  have hU := hU.trans_same k
  have B := B.upd k (by simp)
  have hS := hS.upd k
  clear k x0 x1
  have x0 := B.cell (i := 0) rfl
  have x1 := B.cell (i := 1) rfl
  go_wp2_with fail
  refine (none_close _ _ _ _ (Or.inl rfl)).mono ?_
  rintro e w9 ⟨rfl, k⟩
  have hU := hU.trans_same k
  have B := B.upd k (by simp)
  have hS := hS.upd k
  clear k x0 x1
  have x0 := B.cell (i := 0) rfl
  have x1 := B.cell (i := 1) rfl
  go_wp2_with fail
  refine (none_close _ _ _ _ hS).mono ?_
  rintro e w10 ⟨rfl, k⟩
  have hU := hU.trans_same k
  have B := B.upd k (by simp)
  have hS := hS.upd k
  clear k x0 x1
  have x0 := B.cell (i := 0) rfl
  have x1 := B.cell (i := 1) rfl
  go_wp2_with fail
  refine (none_set _ _ _ _ _ _ (Or.inl rfl)).mono ?_
  rintro e w11 ⟨rfl, k⟩
  have hU := hU.trans_same k
  have B := B.upd k (by simp)
  have hS := hS.upd k
  clear k x0 x1
  have x0 := B.cell (i := 0) rfl
  have x1 := B.cell (i := 1) rfl
  go_wp2_with fail
  refine (none_set _ _ _ _ _ _ hS).mono ?_
  rintro e w12 ⟨rfl, k⟩
  have hU := hU.trans_same k
  have hS := hS.upd k
  clear k x0 x1 B
  go_wp2_with (first
    | (go_at_call 10; refine (none_age _ _ _ _ (by first | exact Or.inl rfl | exact hS)).mono ?_; rintro e w' ⟨rfl, rfl⟩)
    | (go_at_call 14; refine (none_used _ _ (by first | exact Or.inl rfl | exact hS)).mono ?_; rintro e w' ⟨rfl, rfl⟩)
    | (go_at_call 15; refine (none_live _ _ (by first | exact Or.inl rfl | exact hS)).mono ?_; rintro e w' ⟨rfl, rfl⟩)
    | (go_at_call 18; refine (none_clone _ _ (by first | exact Or.inl rfl | exact hS)).mono ?_; rintro e w' ⟨rfl, rfl⟩))
  go_ret
  exact ⟨rfl, hU⟩

end Go.Proofs.Ytfejlokinopjbaa
