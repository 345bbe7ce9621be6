/- The walks of the ring's reading calls: is, Len, Cap, Free, Moved; of a ring that a call made, and of one that none made. -/
import Derived.Test.YtnbhgfnjnccakaaProg
import Derived.Test.YtnbhgfnjnccakaaRingSpec
import Derived.BigQuiet
import Derived.WalkLawsBesides
import Derived.WalkSpells
namespace Go.Proofs.Ytnbhgfnjnccakaa
open Go Go.RowKit
set_option linter.unusedVariables false

/-- p points to no ring that a call made. -/
def NoRing (w : World) (p : Value) : Prop := p = .pointer none ∨ ∃ b, p = .pointer (some ⟨b, 0, none⟩) ∧ w.cell? ⟨b, 5, none⟩ = some (.bool false)

theorem is_any (b : Nat) (m : Bool) (w : World) (h5 : w.cell? ⟨b, 5, none⟩ = some (.bool m)) :
    Calls Try.prog 89 #[.pointer (some ⟨b, 0, none⟩)] w fun e w' => e = .returned (.bool m) ∧ w = w' := by
  go_enter Try.func89, Try.ntmps89
  go_wp2
  go_ret
  exact ⟨rfl, rfl⟩

theorem is_nil (w : World) : Calls Try.prog 89 #[.pointer none] w fun e w' => e = .returned (.bool false) ∧ w = w' := by
  go_enter Try.func89, Try.ntmps89
  go_wp2
  go_ret
  exact ⟨rfl, rfl⟩

theorem is_none (p : Value) (w : World) (h : NoRing w p) : Calls Try.prog 89 #[p] w fun e w' => e = .returned (.bool false) ∧ w = w' := by
  rcases h with rfl | ⟨b, rfl, h5⟩
  · exact is_nil w
  · exact is_any b false w h5

section
variable {w : World} {b g : Nat} {r : RingM}
theorem RingAt.is (h : RingAt w b g r) : Calls Try.prog 89 #[.pointer (some ⟨b, 0, none⟩)] w fun e w' => e = .returned (.bool true) ∧ w = w' := by
  obtain ⟨_, _, _, _, h⟩ := h
  exact is_any b true w (h.blk.cell rfl)

theorem ring_len (h : RingAt w b g r) : Calls Try.prog 62 #[.pointer (some ⟨b, 0, none⟩)] w fun e w' => e = .returned (.int .i64 (r.xs.length : Nat)) ∧ w = w' := by
  obtain ⟨cap, first, bs, rest, h⟩ := h
  have h4 := h.blk.cell (i := 4) rfl
  have h5 := h.blk.cell (i := 5) rfl
  go_enter Try.func62, Try.ntmps62
  go_wp2_with (go_at_call 89; refine (is_any _ _ _ h5).mono ?_; rintro e w' ⟨rfl, rfl⟩)
  go_ret
  exact ⟨rfl, rfl⟩

theorem ring_cap (h : RingAt w b g r) : Calls Try.prog 93 #[.pointer (some ⟨b, 0, none⟩)] w fun e w' => e = .returned (.int .i64 (r.size : Nat)) ∧ w = w' := by
  obtain ⟨cap, first, bs, rest, h⟩ := h
  have h2 := h.blk.cell (i := 2) rfl
  have h5 := h.blk.cell (i := 5) rfl
  go_enter Try.func93, Try.ntmps93
  go_wp2_with (go_at_call 89; refine (is_any _ _ _ h5).mono ?_; rintro e w' ⟨rfl, rfl⟩)
  go_ret
  exact ⟨rfl, rfl⟩

theorem ring_free (h : RingAt w b g r) : Calls Try.prog 87 #[.pointer (some ⟨b, 0, none⟩)] w fun e w' => e = .returned (.int .i64 ((r.size - r.xs.length : Nat) : Int)) ∧ w = w' := by
  have hl := ring_len h
  have hc := ring_cap h
  have h1 := h.fit
  have h2 := h.small
  go_enter Try.func87, Try.ntmps87
  go_wp2_with (first | (go_at_call 93; refine hc.mono ?_; rintro e w' ⟨rfl, rfl⟩) | (go_at_call 62; refine hl.mono ?_; rintro e w' ⟨rfl, rfl⟩))
  go_ret
  exact ⟨ret_int (by omega), rfl⟩

end

/-! ### A ring that no call made -/
section
variable {w : World} {p : Value}
theorem none_len (h : NoRing w p) : Calls Try.prog 62 #[p] w fun e w' => e = .returned (.int .i64 0) ∧ w = w' := by
  have hi := is_none p w h
  go_enter Try.func62, Try.ntmps62
  go_wp2_with (go_at_call 89; refine hi.mono ?_; rintro e w' ⟨rfl, rfl⟩)
  go_ret
  exact ⟨rfl, rfl⟩
theorem none_cap (h : NoRing w p) : Calls Try.prog 93 #[p] w fun e w' => e = .returned (.int .i64 0) ∧ w = w' := by
  have hi := is_none p w h
  go_enter Try.func93, Try.ntmps93
  go_wp2_with (go_at_call 89; refine hi.mono ?_; rintro e w' ⟨rfl, rfl⟩)
  go_ret
  exact ⟨rfl, rfl⟩
theorem none_free (h : NoRing w p) : Calls Try.prog 87 #[p] w fun e w' => e = .returned (.int .i64 0) ∧ w = w' := by
  have hl := none_len h
  have hc := none_cap h
  go_enter Try.func87, Try.ntmps87
  go_wp2_with (first | (go_at_call 93; refine hc.mono ?_; rintro e w' ⟨rfl, rfl⟩) | (go_at_call 62; refine hl.mono ?_; rintro e w' ⟨rfl, rfl⟩))
  go_ret
  exact ⟨rfl, rfl⟩
theorem none_clone (h : NoRing w p) : Calls Try.prog 74 #[p] w fun e w' => e = .returned (.pointer none) ∧ w = w' := by
  have hi := is_none p w h
  go_enter Try.func74, Try.ntmps74
  go_wp2_with (go_at_call 89; refine hi.mono ?_; rintro e w' ⟨rfl, rfl⟩)
  go_ret
  exact ⟨rfl, rfl⟩
theorem none_put (ao : Option Addr) (len cap : Nat) (h : NoRing w p) : Calls Try.prog 59 #[p, .slice ao len cap] w fun e w' => e = .returned (.int .i64 0) ∧ w = w' := by
  have hf := none_free h
  go_enter Try.func59, Try.ntmps59
  go_wp2_with (go_at_call 87; refine hf.mono ?_; rintro e w' ⟨rfl, rfl⟩)
  all_goals go_ret
  all_goals exact ⟨rfl, rfl⟩
theorem none_drop (n : Int) (h : NoRing w p) : Calls Try.prog 88 #[p, .int .i64 n] w fun e w' => e = .returned (.int .i64 0) ∧ w = w' := by
  have hf := none_len h
  go_enter Try.func88, Try.ntmps88
  go_wp2_with (go_at_call 62; refine hf.mono ?_; rintro e w' ⟨rfl, rfl⟩)
  all_goals (go_ret; exact ⟨rfl, rfl⟩)
theorem none_clear (h : NoRing w p) : Calls Try.prog 86 #[p] w fun e w' => e = .returned (.tuple #[]) ∧ w = w' := by
  have hf := none_len h
  have hd := none_drop 0 h
  go_enter Try.func86, Try.ntmps86
  go_wp2_with (first | (go_at_call 62; refine hf.mono ?_; rintro e w' ⟨rfl, rfl⟩) | (go_at_call 88; refine hd.mono ?_; rintro e w' ⟨rfl, rfl⟩))
  go_end0
  exact ⟨rfl, rfl⟩
end
end Go.Proofs.Ytnbhgfnjnccakaa
