/- The walks of the ring's reading calls: is, Len, Cap, Free, Moved; of a ring that a call made, and of one that none made. -/
import Derived.Test.YtfieggpoofemmaaProg
import Derived.Test.YtfieggpoofemmaaRingSpec
import Derived.BigQuiet
import Derived.WalkLawsBesides
import Derived.WalkSpells
namespace Go.Proofs.Ytfieggpoofemmaa
open Go Go.RowKit
set_option linter.unusedVariables false

/-- p points to no ring that a call made. -/
def NoRing (w : World) (p : Value) : Prop := p = .pointer none ∨ ∃ b, p = .pointer (some ⟨b, 0, none⟩) ∧ w.cell? ⟨b, 5, none⟩ = some (.bool false)

theorem is_any (b : Nat) (m : Bool) (w : World) (h5 : w.cell? ⟨b, 5, none⟩ = some (.bool m)) :
    Calls Try.prog 28 #[.pointer (some ⟨b, 0, none⟩)] w fun e w' => e = .returned (.bool m) ∧ w = w' := by
  go_enter Try.func28, Try.ntmps28
  go_wp2
  go_ret
  exact ⟨rfl, rfl⟩

theorem is_nil (w : World) : Calls Try.prog 28 #[.pointer none] w fun e w' => e = .returned (.bool false) ∧ w = w' := by
  go_enter Try.func28, Try.ntmps28
  go_wp2
  go_ret
  exact ⟨rfl, rfl⟩

theorem is_none (p : Value) (w : World) (h : NoRing w p) : Calls Try.prog 28 #[p] w fun e w' => e = .returned (.bool false) ∧ w = w' := by
  rcases h with rfl | ⟨b, rfl, h5⟩
  · exact is_nil w
  · exact is_any b false w h5

section
variable {w : World} {b g : Nat} {r : RingM}
theorem RingAt.is (h : RingAt w b g r) : Calls Try.prog 28 #[.pointer (some ⟨b, 0, none⟩)] w fun e w' => e = .returned (.bool true) ∧ w = w' := by
  obtain ⟨_, _, _, _, h⟩ := h
  exact is_any b true w (h.blk.cell rfl)

theorem ring_len (h : RingAt w b g r) : Calls Try.prog 14 #[.pointer (some ⟨b, 0, none⟩)] w fun e w' => e = .returned (.int .i64 (r.xs.length : Nat)) ∧ w = w' := by
  obtain ⟨cap, first, bs, rest, h⟩ := h
  have h4 := h.blk.cell (i := 4) rfl
  have h5 := h.blk.cell (i := 5) rfl
  go_enter Try.func14, Try.ntmps14
  go_wp2_with (go_at_call 28; refine (is_any _ _ _ h5).mono ?_; rintro e w' ⟨rfl, rfl⟩)
  go_ret
  exact ⟨rfl, rfl⟩

theorem ring_cap (h : RingAt w b g r) : Calls Try.prog 16 #[.pointer (some ⟨b, 0, none⟩)] w fun e w' => e = .returned (.int .i64 (r.size : Nat)) ∧ w = w' := by
  obtain ⟨cap, first, bs, rest, h⟩ := h
  have h2 := h.blk.cell (i := 2) rfl
  have h5 := h.blk.cell (i := 5) rfl
  go_enter Try.func16, Try.ntmps16
  go_wp2_with (go_at_call 28; refine (is_any _ _ _ h5).mono ?_; rintro e w' ⟨rfl, rfl⟩)
  go_ret
  exact ⟨rfl, rfl⟩

theorem ring_free (h : RingAt w b g r) : Calls Try.prog 18 #[.pointer (some ⟨b, 0, none⟩)] w fun e w' => e = .returned (.int .i64 ((r.size - r.xs.length : Nat) : Int)) ∧ w = w' := by
  have hl := ring_len h
  have hc := ring_cap h
  have h1 := h.fit
  have h2 := h.small
  go_enter Try.func18, Try.ntmps18
  go_wp2_with (first | (go_at_call 16; refine hc.mono ?_; rintro e w' ⟨rfl, rfl⟩) | (go_at_call 14; refine hl.mono ?_; rintro e w' ⟨rfl, rfl⟩))
  go_ret
  exact ⟨ret_int (by omega), rfl⟩

theorem count_at (b : Nat) (i o : Nat) (w : World) (hi : i < 4294967296) (ho : o < 4294967296) (h0 : w.cell? ⟨b, 0, none⟩ = some (.int .u32 (i : Int))) (h1 : w.cell? ⟨b, 1, none⟩ = some (.int .u32 (o : Int))) :
    Calls Try.prog 29 #[.pointer (some ⟨b, 0, none⟩)] w fun e w' => e = .returned (.tuple #[.int .i64 (i : Int), .int .i64 (o : Int)]) ∧ ∃ m, w' = w.drewN m := by
  have ei : IntKind.i64.wrap (i : Int) = (i : Int) := IntWalk.i64_in _ (by omega)
  have eo : IntKind.i64.wrap (o : Int) = (o : Int) := IntWalk.i64_in _ (by omega)
  go_enter Try.func29, Try.ntmps29
  go_wp2_with fail
  go_quiet (fail)
  go_wp2
  go_ret2
  exact ⟨rfl, _, rfl⟩

theorem ring_moved (h : RingAt w b g r) : Calls Try.prog 15 #[.pointer (some ⟨b, 0, none⟩)] w fun e w' => e = .returned (.tuple #[.int .i64 (r.i : Int), .int .i64 (r.o : Int)]) ∧ ∃ m, w' = w.drewN m := by
  obtain ⟨hi, ho⟩ := h.io
  obtain ⟨cap, first, bs, rest, h⟩ := h
  have h0 := h.blk.cell (i := 0) rfl
  have h1 := h.blk.cell (i := 1) rfl
  have h5 := h.blk.cell (i := 5) rfl
  go_enter Try.func15, Try.ntmps15
  go_wp2_with (first | (go_at_call 28; refine (is_any _ _ _ h5).mono ?_; rintro e w' ⟨rfl, rfl⟩) | (go_at_call 29; refine (count_at _ _ _ _ hi ho h0 h1).mono ?_; rintro e w' ⟨rfl, m, rfl⟩))
  go_ret2
  exact ⟨rfl, _, rfl⟩
end

/-! ### A ring that no call made -/
section
variable {w : World} {p : Value}
theorem none_len (h : NoRing w p) : Calls Try.prog 14 #[p] w fun e w' => e = .returned (.int .i64 0) ∧ w = w' := by
  have hi := is_none p w h
  go_enter Try.func14, Try.ntmps14
  go_wp2_with (go_at_call 28; refine hi.mono ?_; rintro e w' ⟨rfl, rfl⟩)
  go_ret
  exact ⟨rfl, rfl⟩
theorem none_cap (h : NoRing w p) : Calls Try.prog 16 #[p] w fun e w' => e = .returned (.int .i64 0) ∧ w = w' := by
  have hi := is_none p w h
  go_enter Try.func16, Try.ntmps16
  go_wp2_with (go_at_call 28; refine hi.mono ?_; rintro e w' ⟨rfl, rfl⟩)
  go_ret
  exact ⟨rfl, rfl⟩
theorem none_free (h : NoRing w p) : Calls Try.prog 18 #[p] w fun e w' => e = .returned (.int .i64 0) ∧ w = w' := by
  have hl := none_len h
  have hc := none_cap h
  go_enter Try.func18, Try.ntmps18
  go_wp2_with (first | (go_at_call 16; refine hc.mono ?_; rintro e w' ⟨rfl, rfl⟩) | (go_at_call 14; refine hl.mono ?_; rintro e w' ⟨rfl, rfl⟩))
  go_ret
  exact ⟨rfl, rfl⟩
theorem none_moved (h : NoRing w p) : Calls Try.prog 15 #[p] w fun e w' => e = .returned (.tuple #[.int .i64 0, .int .i64 0]) ∧ w = w' := by
  have hi := is_none p w h
  go_enter Try.func15, Try.ntmps15
  go_wp2_with (go_at_call 28; refine hi.mono ?_; rintro e w' ⟨rfl, rfl⟩)
  go_ret2
  exact ⟨rfl, rfl⟩
theorem none_clone (h : NoRing w p) : Calls Try.prog 19 #[p] w fun e w' => e = .returned (.pointer none) ∧ w = w' := by
  have hi := is_none p w h
  go_enter Try.func19, Try.ntmps19
  go_wp2_with (go_at_call 28; refine hi.mono ?_; rintro e w' ⟨rfl, rfl⟩)
  go_ret
  exact ⟨rfl, rfl⟩
theorem none_put (ao : Option Addr) (len cap : Nat) (h : NoRing w p) : Calls Try.prog 11 #[p, .slice ao len cap] w fun e w' => e = .returned (.int .i64 0) ∧ w = w' := by
  have hf := none_free h
  go_enter Try.func11, Try.ntmps11
  go_wp2_with (go_at_call 18; refine hf.mono ?_; rintro e w' ⟨rfl, rfl⟩)
  all_goals go_ret
  all_goals exact ⟨rfl, rfl⟩
theorem none_drop (n : Int) (h : NoRing w p) : Calls Try.prog 17 #[p, .int .i64 n] w fun e w' => e = .returned (.int .i64 0) ∧ w = w' := by
  have hf := none_len h
  go_enter Try.func17, Try.ntmps17
  go_wp2_with (go_at_call 14; refine hf.mono ?_; rintro e w' ⟨rfl, rfl⟩)
  all_goals (go_ret; exact ⟨rfl, rfl⟩)
theorem none_clear (h : NoRing w p) : Calls Try.prog 26 #[p] w fun e w' => e = .returned (.tuple #[]) ∧ w = w' := by
  have hf := none_len h
  have hd := none_drop 0 h
  go_enter Try.func26, Try.ntmps26
  go_wp2_with (first | (go_at_call 14; refine hf.mono ?_; rintro e w' ⟨rfl, rfl⟩) | (go_at_call 17; refine hd.mono ?_; rintro e w' ⟨rfl, rfl⟩))
  go_end0
  exact ⟨rfl, rfl⟩
end
end Go.Proofs.Ytfieggpoofemmaa
