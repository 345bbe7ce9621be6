/- The walks of the table's calls is, Used, New. -/
import Derived.Test.YtfejlokinopjbaaProg
import Derived.Test.YtfejlokinopjbaaDescSpec
import Derived.Test.YtfejlokinopjbaaFx
import Derived.BigQuiet
import Derived.WalkLawsBesides
import Derived.WalkSpells
namespace Go.Proofs.Ytfejlokinopjbaa
open Go Go.RowKit
set_option linter.unusedVariables false

theorem is_any (b : Nat) (m : Bool) (w : World) (h5 : w.cell? ⟨b, 2, none⟩ = some (.bool m)) :
    Calls Try.prog 22 #[.pointer (some ⟨b, 0, none⟩)] w fun e w' => e = .returned (.bool m) ∧ w = w' := by
  go_enter Try.func22, Try.ntmps22
  go_wp2
  go_ret
  exact ⟨rfl, rfl⟩

theorem is_nil (w : World) : Calls Try.prog 22 #[.pointer none] w fun e w' => e = .returned (.bool false) ∧ w = w' := by
  go_enter Try.func22, Try.ntmps22
  go_wp2
  go_ret
  exact ⟨rfl, rfl⟩

theorem is_none (p : Value) (w : World) (h : NoTab w p) : Calls Try.prog 22 #[p] w fun e w' => e = .returned (.bool false) ∧ w = w' := by
  rcases h with rfl | ⟨b, rfl, h5⟩
  · exact is_nil w
  · exact is_any b false w h5

theorem tab_used {w : World} {base b : Nat} {v : Value} {t : TabM} (h : TabAt w base b v t) :
    Calls Try.prog 14 #[.pointer (some ⟨b, 0, none⟩)] w fun e w' => e = .returned (.int .i64 (t.used : Nat)) ∧ w = w' := by
  have h1 := h.blk.cell (i := 1) rfl
  have h2 := h.blk.cell (i := 2) rfl
  go_enter Try.func14, Try.ntmps14
  go_wp2_with (go_at_call 22; refine (is_any _ _ _ h2).mono ?_; rintro e w' ⟨rfl, rfl⟩)
  go_ret
  exact ⟨rfl, rfl⟩

theorem Try.infoEnt : (Try.prog.info? 58).map (fun i => (i.zero, i.size, i.bytes)) = some (some (.agg #[.int .i64 0, .int .i64 0, .int .i64 0, .int .i64 0, .int .i64 0]), 5, 40) := by kernel_rfl

/-! ### of a table that no call made -/

theorem none_used (p : Value) (w : World) (h : NoTab w p) : Calls Try.prog 14 #[p] w fun e w' => e = .returned (.int .i64 0) ∧ w = w' := by
  have hi := is_none p w h
  go_enter Try.func14, Try.ntmps14
  go_wp2_with (go_at_call 22; refine hi.mono ?_; rintro e w' ⟨rfl, rfl⟩)
  go_ret
  exact ⟨rfl, rfl⟩

theorem none_live (p : Value) (w : World) (h : NoTab w p) : Calls Try.prog 15 #[p] w fun e w' => e = .returned (.slice none 0 0) ∧ w = w' := by
  have hi := is_none p w h
  go_enter Try.func15, Try.ntmps15
  go_wp2_with (go_at_call 22; refine hi.mono ?_; rintro e w' ⟨rfl, rfl⟩)
  go_ret
  exact ⟨rfl, rfl⟩

theorem none_clone (p : Value) (w : World) (h : NoTab w p) : Calls Try.prog 18 #[p] w fun e w' => e = .returned (.pointer none) ∧ w = w' := by
  have hi := is_none p w h
  go_enter Try.func18, Try.ntmps18
  go_wp2_with (go_at_call 22; refine hi.mono ?_; rintro e w' ⟨rfl, rfl⟩)
  go_ret
  exact ⟨rfl, rfl⟩

theorem none_age (p : Value) (ix gen : Int) (w : World) (h : NoTab w p) : Calls Try.prog 10 #[p, .int .i64 ix, .int .i64 gen] w fun e w' => e = .returned (.int .i64 1) ∧ w = w' := by
  have hi := is_none p w h
  go_enter Try.func10, Try.ntmps10
  go_wp2_with (go_at_call 22; refine hi.mono ?_; rintro e w' ⟨rfl, rfl⟩)
  go_ret
  exact ⟨rfl, rfl⟩

theorem NoTab.alloc {p : Value} {w : World} (h : NoTab w p) (o : Obj) : NoTab (w.alloc o) p := by
  rcases h with rfl | ⟨b, rfl, h5⟩
  · exact Or.inl rfl
  · exact Or.inr ⟨b, rfl, by rw [((Upd.refl [] w).alloc o).cell (World.block_lt_of_cell? w _ h5) (by simp)]; exact h5⟩

theorem none_find (p : Value) (ix gen : Int) (w : World) (h : NoTab w p) : Calls Try.prog 23 #[p, .agg #[.int .i64 ix, .int .i64 gen]] w fun e w' => e = .returned (.tuple #[.pointer none, .int .i64 1]) ∧ Upd [] w w' := by
  have hi := is_none p _ (h.alloc (.cells #[.int .i64 ix, .int .i64 gen] 30))
  go_enter Try.func23, Try.ntmps23
  go_wp2_with (go_at_call 22; refine hi.mono ?_; rintro e w' ⟨rfl, rfl⟩)
  go_ret2
  exact ⟨rfl, (Upd.refl _ _).alloc _⟩

theorem none_open (p : Value) (kind num : Int) (w : World) (h : NoTab w p) : Calls Try.prog 11 #[p, .int .i64 kind, .int .i64 num] w fun e w' => e = .returned (.tuple #[.agg #[.int .i64 0, .int .i64 0], .int .i64 1]) ∧ Upd [] w w' := by
  have hi := is_none p _ (h.alloc (.cells #[.int .i64 0, .int .i64 0] 30))
  go_enter Try.func11, Try.ntmps11
  go_wp2_with (go_at_call 22; refine hi.mono ?_; rintro e w' ⟨rfl, rfl⟩)
  (try simp only [Exit.inBlock, Exit.then])
  refine bodyPost_ret (v := .tuple #[.agg #[.int .i64 0, .int .i64 0], .int .i64 1]) (by simp [results, Try.results11, go_sem]) rfl ?_
  exact ⟨rfl, (Upd.refl _ _).alloc _⟩

theorem none_lookup (p : Value) (ix gen : Int) (w : World) (h : NoTab w p) : Calls Try.prog 13 #[p, .agg #[.int .i64 ix, .int .i64 gen]] w fun e w' => e = .returned (.tuple #[.int .i64 0, .int .i64 0, .int .i64 1]) ∧ Upd [] w w' := by
  have hi := none_find p ix gen _ (h.alloc (.cells #[.int .i64 ix, .int .i64 gen] 30))
  go_enter Try.func13, Try.ntmps13
  go_wp2_with fail
  refine hi.mono ?_
  rintro e w1 ⟨rfl, hU⟩
  go_wp2_with fail
  (try simp only [Exit.inBlock, Exit.then])
  refine bodyPost_ret (v := .tuple #[.int .i64 0, .int .i64 0, .int .i64 1]) (by simp [results, Try.results13, go_sem]) rfl ?_
  exact ⟨rfl, ((Upd.refl _ _).alloc _).trans_same hU⟩

theorem none_close (p : Value) (ix gen : Int) (w : World) (h : NoTab w p) : Calls Try.prog 12 #[p, .agg #[.int .i64 ix, .int .i64 gen]] w fun e w' => e = .returned (.int .i64 1) ∧ Upd [] w w' := by
  have hi := none_find p ix gen _ (h.alloc (.cells #[.int .i64 ix, .int .i64 gen] 30))
  go_enter Try.func12, Try.ntmps12
  go_wp2_with fail
  refine hi.mono ?_
  rintro e w1 ⟨rfl, hU⟩
  go_wp2_with fail
  go_ret
  exact ⟨rfl, ((Upd.refl _ _).alloc _).trans_same hU⟩

theorem none_set (p : Value) (ix gen kind num : Int) (w : World) (h : NoTab w p) : Calls Try.prog 16 #[p, .agg #[.int .i64 ix, .int .i64 gen], .int .i64 kind, .int .i64 num] w fun e w' => e = .returned (.int .i64 1) ∧ Upd [] w w' := by
  have hi := none_find p ix gen _ (h.alloc (.cells #[.int .i64 ix, .int .i64 gen] 30))
  go_enter Try.func16, Try.ntmps16
  go_wp2_with fail
  refine hi.mono ?_
  rintro e w1 ⟨rfl, hU⟩
  go_wp2_with fail
  go_ret
  exact ⟨rfl, ((Upd.refl _ _).alloc _).trans_same hU⟩

end Go.Proofs.Ytfejlokinopjbaa
