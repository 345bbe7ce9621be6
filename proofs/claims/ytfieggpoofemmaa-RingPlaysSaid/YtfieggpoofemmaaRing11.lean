/- A ring answers as a list of bytes would: the walk of the law RingPlays. -/
import Derived.Test.YtfieggpoofemmaaRef2
namespace Go.Proofs.Ytfieggpoofemmaa
open Go Go.RowKit
set_option linter.unusedVariables false

set_option maxHeartbeats 1000000 in
set_option maxRecDepth 100000 in
theorem told_same {w : World} {b g base c : Nat} {v : Value} {r : RingM} (h : RingAt w b g r) (hy : RefAt w base c v r) :
    Calls Try.prog 27 #[.pointer (some ⟨b, 0, none⟩), .pointer (some ⟨c, 0, none⟩)] w fun e w' => e = .returned (.bool true) ∧ ∃ m, w' = w.drewN m := by
  have hM := ring_moved h
  obtain ⟨ao, co, rfl⟩ := hy.own.shape
  have c0 := hy.blk.cell (i := 0) rfl
  have c1 := hy.blk.cell (i := 1) rfl
  have c2 := hy.blk.cell (i := 2) rfl
  have c3 := hy.blk.cell (i := 3) rfl
  have hfit := h.fit
  have hsm := h.small
  have esub : IntKind.i64.wrap ((r.size : Int) - (r.xs.length : Int)) = ((r.size - r.xs.length : Nat) : Int) := by rw [IntWalk.i64_in _ (by omega)]; omega
  go_enter Try.func27, Try.ntmps27
  go_wp2_with fail
  refine hM.mono ?_
  rintro e w' ⟨rfl, m, rfl⟩
  have hL : ∀ k, Calls Try.prog 14 #[.pointer (some ⟨b, 0, none⟩)] ((w.drewN m).drewN k) fun e w' => e = .returned (.int .i64 (r.xs.length : Nat)) ∧ w' = (w.drewN m).drewN k := fun k => (ring_len (h.upd (((Upd.refl [] w).drewN m).drewN k) (by simp) (by simp))).mono fun e w' h => ⟨h.1, h.2.symm⟩
  have hC : ∀ k, Calls Try.prog 16 #[.pointer (some ⟨b, 0, none⟩)] ((w.drewN m).drewN k) fun e w' => e = .returned (.int .i64 (r.size : Nat)) ∧ w' = (w.drewN m).drewN k := fun k => (ring_cap (h.upd (((Upd.refl [] w).drewN m).drewN k) (by simp) (by simp))).mono fun e w' h => ⟨h.1, h.2.symm⟩
  have hF : ∀ k, Calls Try.prog 18 #[.pointer (some ⟨b, 0, none⟩)] ((w.drewN m).drewN k) fun e w' => e = .returned (.int .i64 ((r.size - r.xs.length : Nat) : Int)) ∧ w' = (w.drewN m).drewN k := fun k => (ring_free (h.upd (((Upd.refl [] w).drewN m).drewN k) (by simp) (by simp))).mono fun e w' h => ⟨h.1, h.2.symm⟩
  clear h hy hM
  have c0 : (w.drewN m).cell? ⟨c, 0, none⟩ = _ := c0
  have c1 : (w.drewN m).cell? ⟨c, 1, none⟩ = _ := c1
  have c2 : (w.drewN m).cell? ⟨c, 2, none⟩ = _ := c2
  have c3 : (w.drewN m).cell? ⟨c, 3, none⟩ = _ := c3
  generalize hw1 : w.drewN m = w1 at *
  generalize r.size - r.xs.length = f at *
  generalize r.xs.length = l at *
  go_wp2_with fail
  go_quiet (first
    | (go_at_call 14; refine Calls.quiet_of_same (hL _))
    | (go_at_call 16; refine Calls.quiet_of_same (hC _))
    | (go_at_call 18; refine Calls.quiet_of_same (hF _)))
  go_wp2_with fail
  go_ret
  exact ⟨rfl, m + nq, by rw [← hw1]; simp [World.drewN, Nat.add_assoc]⟩

end Go.Proofs.Ytfieggpoofemmaa
