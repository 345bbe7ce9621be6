/- The chapter's example of a ring comes out as told. -/
import Derived.Test.YtfieggpoofemmaaRing5
namespace Go.Proofs.Ytfieggpoofemmaa
open Go Go.RowKit
set_option linter.unusedVariables false

def Fine (w : World) (v : Value) (e : Ending) (w' : World) : Prop := e = .returned v ∧ Upd [] w w'

set_option maxRecDepth 100000 in
theorem ring_works (w : World) : Calls Try.prog 8 #[] w (Fine w (.bool true)) := by
  have kc := fun (w : World) (C : Array Value) (n c : Nat) => Lib.run_convert_bytes_const (P := Try.prog) w 30 5 C n c Try.underlying30 Try.underlying5
  go_enter Try.func8, Try.ntmps8
  go_wp2_with fail
  refine (ring_new 4 _ (by decide) (by decide)).mono ?_
  rintro e w1 ⟨b, g, rfl, hb, hg, h, hU⟩
  have hlt := h.lt
  have hr1 := fun fz => rd_lit w1 [97, 98, 99, 100, 101, 102] fz (by decide)
  go_wp2_with fail
  have h1 := h.upd ((Upd.refl [] _).alloc (.cells ([97, 98, 99, 100, 101, 102].map byteV).toArray 5 (6, 7))) (by simp) (by simp)
  refine (ring_put h1 (hr1 _) ?_).mono ?_
  · intro _; simp [Value.ownBlock]; omega
  have e1 : (RingM.new (Int.toNat 4)).putN [97, 98, 99, 100, 101, 102] = 4 := rfl
  have e2 : (RingM.new (Int.toNat 4)).put [97, 98, 99, 100, 101, 102] = ⟨4, [97, 98, 99, 100], 4, 0⟩ := rfl
  rw [e1, e2]
  clear e1 e2
  rintro e w2 ⟨rfl, h2, hU2⟩
  have hU2 := (hU.alloc _).trans (fun k hk => Or.inr (by simp at hk; omega)) hU2
  clear hr1 h h1
  go_wp2_with fail
  have ht := ring_take 2 h2
  have e1 : (⟨4, [97, 98, 99, 100], 4, 0⟩ : RingM).drop 2 = ⟨4, [99, 100], 4, 2⟩ := rfl
  have e2 : (⟨4, [97, 98, 99, 100], 4, 0⟩ : RingM).peek 2 = [97, 98] := rfl
  rw [e1, e2] at ht
  clear e1 e2
  refine ht.mono ?_
  rintro e w3 ⟨G3, rfl, hG3, hB3, h3, hU3⟩
  have hU3 := hU2.trans (fun k hk => Or.inr (by simp at hk; omega)) hU3
  have hs3 : (convert 30 9 (.slice (some ⟨G3, 0, none⟩) 2 2)).run Try.prog w3 = .ok (.string ⟨#[97, 98]⟩) w3 := run_string_of (P := Try.prog) (hB3.rd (by decide)) 30 5 9 Try.underlying30 Try.underlying5 Try.underlying9
  clear ht h2
  have hr1 := fun fz => rd_lit w3 [120, 121, 122] fz (by decide)
  go_wp2_with fail
  have h4 := h3.upd ((Upd.refl [] _).alloc (.cells ([120, 121, 122].map byteV).toArray 5 (3, 4))) (by simp) (by simp)
  have hlt3 := h3.lt
  have hp := ring_put h4 (hr1 _) (fun _ => by simp [Value.ownBlock]; omega)
  have e1 : (⟨4, [99, 100], 4, 2⟩ : RingM).putN [120, 121, 122] = 2 := rfl
  have e2 : (⟨4, [99, 100], 4, 2⟩ : RingM).put [120, 121, 122] = ⟨4, [99, 100, 120, 121], 6, 2⟩ := rfl
  rw [e1, e2] at hp
  clear e1 e2
  refine hp.mono ?_
  rintro e w5 ⟨rfl, h5, hU5⟩
  have hU5 := (hU3.alloc _).trans (fun k hk => Or.inr (by simp at hk; omega)) hU5
  clear hr1 h3 h4 hp hs3 hB3
  have ht := ring_take 9 h5
  have e1 : (⟨4, [99, 100, 120, 121], 6, 2⟩ : RingM).drop 9 = ⟨4, [], 6, 6⟩ := rfl
  have e2 : (⟨4, [99, 100, 120, 121], 6, 2⟩ : RingM).peek 9 = [99, 100, 120, 121] := rfl
  rw [e1, e2] at ht
  clear e1 e2
  go_wp2_with fail
  refine ht.mono ?_
  rintro e w6 ⟨G6, rfl, hG6, hB6, h6, hU6⟩
  have hU6 := hU5.trans (fun k hk => Or.inr (by simp at hk; omega)) hU6
  have hs6 : (convert 30 9 (.slice (some ⟨G6, 0, none⟩) 4 4)).run Try.prog w6 = .ok (.string ⟨#[99, 100, 120, 121]⟩) w6 := run_string_of (P := Try.prog) (hB6.rd (by decide)) 30 5 9 Try.underlying30 Try.underlying5 Try.underlying9
  have hm := ring_moved h6
  clear ht h5
  go_wp2_with (go_at_call 15; refine hm.mono ?_; rintro e w7 ⟨rfl, m, rfl⟩)
  go_ret
  exact ⟨rfl, hU6.drewN _⟩
end Go.Proofs.Ytfieggpoofemmaa
