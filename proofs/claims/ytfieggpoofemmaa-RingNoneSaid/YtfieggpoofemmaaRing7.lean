/- A ring that no call made: the walk of the law RingNone. -/
import Derived.Test.YtfieggpoofemmaaRing6
namespace Go.Proofs.Ytfieggpoofemmaa
open Go Go.RowKit
set_option linter.unusedVariables false

theorem make0 (w : World) : (Instr.makeSlice 30 (.int .i64 0) (.int .i64 0)).run Try.prog w = .ok (.slice (some ⟨w.heap.size, 0, none⟩) 0 0) (w.alloc (.cells #[] 5)) :=
  (run_make_row' (P := Try.prog) 30 5 (.int .u8 0) 1 Try.underlying30 Try.info5 rfl .i64 .i64 0 (by omega) (by omega) w).trans (by rw [madeCells_one]; rfl)

def Empty (w : World) (e : Ending) (w' : World) : Prop := ∃ G, e = .returned (.slice (some ⟨G, 0, none⟩) 0 0) ∧ Upd [] w w'

section
variable {w : World} {p : Value}
theorem NoRing.upd {w1 : World} (h : NoRing w p) (hU : Upd [] w w1) : NoRing w1 p := by
  rcases h with rfl | ⟨b, rfl, h5⟩
  · exact Or.inl rfl
  · exact Or.inr ⟨b, rfl, by rw [hU.cell (World.block_lt_of_cell? w _ h5) (by simp)]; exact h5⟩
theorem none_peek (n : Int) (h : NoRing w p) : Calls Try.prog 13 #[p, .int .i64 n] w (Empty w) := by
  have hl := none_len h
  have hmk := make0
  go_enter Try.func13, Try.ntmps13
  go_wp2_with (go_at_call 14; refine hl.mono ?_; rintro e w' ⟨rfl, rfl⟩)
  all_goals (go_ret; exact ⟨_, rfl, (Upd.refl _ _).alloc _⟩)
theorem none_take (n : Int) (h : NoRing w p) : Calls Try.prog 12 #[p, .int .i64 n] w (Empty w) := by
  have hp := none_peek n h
  go_enter Try.func12, Try.ntmps12
  go_wp2_with fail
  refine hp.mono ?_
  rintro e w1 ⟨G, rfl, hU⟩
  have hd := none_drop n (h.upd hU)
  go_wp2_with (go_at_call 17; refine hd.mono ?_; rintro e w' ⟨rfl, rfl⟩)
  go_ret
  exact ⟨_, rfl, hU⟩
end

set_option maxHeartbeats 1000000 in
set_option maxRecDepth 100000 in
theorem ringNone_law (w : World) (ao : Option Addr) (len cap : Nat) (n : Int) : Calls Try.prog 7 #[.slice ao len cap, .int .i64 n] w (Fine w (.bool true)) := by
  go_enter Try.func7, Try.ntmps7
  go_wp2_with fail
  refine (ring_works _).mono ?_
  rintro e w1 ⟨rfl, hU⟩
  have hS : ∀ C, NoRing (w1.alloc (.cells #[.int .u32 0, .int .u32 0, .slice none 0 0, .int .i64 0, .int .i64 0, .bool false] C)) (.pointer (some ⟨w1.heap.size, 0, none⟩)) := fun C =>
    Or.inr ⟨_, rfl, by simp⟩
  have hU := fun o => hU.alloc o
  go_wp2_with (first
    | (go_at_call 15; refine (none_moved (by first | exact Or.inl rfl | exact hS _)).mono ?_; rintro e w' ⟨rfl, rfl⟩)
    | (go_at_call 26; refine (none_clear (by first | exact Or.inl rfl | exact hS _)).mono ?_; rintro e w' ⟨rfl, rfl⟩)
    | (go_at_call 11; refine (none_put _ _ _ (by first | exact Or.inl rfl | exact hS _)).mono ?_; rintro e w' ⟨rfl, rfl⟩))
  refine (none_take _ (Or.inl rfl)).mono ?_
  rintro e w2 ⟨G2, rfl, hU2⟩
  have hS := (hS 56).upd hU2
  have hU := (hU _).trans_same hU2
  clear hU2
  go_wp2_with fail
  refine (none_take _ hS).mono ?_
  rintro e w3 ⟨G3, rfl, hU3⟩
  have hS := hS.upd hU3
  have hU := hU.trans_same hU3
  clear hU3
  go_wp2_with fail
  refine (none_peek _ (Or.inl rfl)).mono ?_
  rintro e w4 ⟨G4, rfl, hU4⟩
  have hS := hS.upd hU4
  have hU := hU.trans_same hU4
  clear hU4
  go_wp2_with fail
  refine (none_peek _ hS).mono ?_
  rintro e w5 ⟨G5, rfl, hU5⟩
  have hS := hS.upd hU5
  have hU := hU.trans_same hU5
  clear hU5
  go_wp2_with (first
    | (go_at_call 17; refine (none_drop _ (by first | exact Or.inl rfl | exact hS)).mono ?_; rintro e w' ⟨rfl, rfl⟩)
    | (go_at_call 14; refine (none_len (by first | exact Or.inl rfl | exact hS)).mono ?_; rintro e w' ⟨rfl, rfl⟩)
    | (go_at_call 16; refine (none_cap (by first | exact Or.inl rfl | exact hS)).mono ?_; rintro e w' ⟨rfl, rfl⟩)
    | (go_at_call 18; refine (none_free (by first | exact Or.inl rfl | exact hS)).mono ?_; rintro e w' ⟨rfl, rfl⟩)
    | (go_at_call 19; refine (none_clone (by first | exact Or.inl rfl | exact hS)).mono ?_; rintro e w' ⟨rfl, rfl⟩))
  go_ret
  exact ⟨rfl, hU⟩
end Go.Proofs.Ytfieggpoofemmaa
