/- The walks of the port's calls, of a port that no call made (written by gen_portn.py). -/
import Derived.Test.YtnbhgfnjnccakaaPortArgs
namespace Go.Proofs.Ytnbhgfnjnccakaa
open Go Go.RowKit
set_option linter.unusedVariables false

theorem NoPort.upd {w w1 : World} {p : Value} (h : NoPort w p) (hU : Upd [] w w1) : NoPort w1 p := by
  rcases h with rfl | ⟨b, rfl, h5⟩
  · exact Or.inl rfl
  · exact Or.inr ⟨b, rfl, by rw [hU.cell (World.block_lt_of_cell? w _ h5) (by simp)]; exact h5⟩

section
variable {w : World} {p : Value}

theorem pn_stream (k : Int) (h : NoPort w p) : Calls Try.prog 57 #[p, .int .i64 k] w fun e w' => e = .returned (.pointer none) ∧ w = w' := by
  have his := pis_none p w h
  go_enter Try.func57, Try.ntmps57
  go_wp2_with (first | (go_at_call 55; refine his.mono ?_; rintro e w' ⟨rfl, rfl⟩))
  go_ret
  exact ⟨rfl, rfl⟩

theorem pn_find (k : Int) (h : NoPort w p) : Calls Try.prog 63 #[p, .int .i64 k] w fun e w' => e = .returned (.tuple #[.pointer none, .int .i64 1]) ∧ w = w' := by
  have his := pis_none p w h
  have hc0 := pn_stream k h
  go_enter Try.func63, Try.ntmps63
  go_wp2_with (first | (go_at_call 55; refine his.mono ?_; rintro e w' ⟨rfl, rfl⟩) | (go_at_call 57; refine hc0.mono ?_; rintro e w' ⟨rfl, rfl⟩))
  go_ret2
  exact ⟨rfl, rfl⟩

theorem pn_state (k : Int) (h : NoPort w p) : Calls Try.prog 25 #[p, .int .i64 k] w fun e w' => e = .returned (.tuple #[.int .i64 0, .int .i64 1]) ∧ w = w' := by
  have his := pis_none p w h
  have hc0 := pn_find k h
  go_enter Try.func25, Try.ntmps25
  go_wp2_with (first | (go_at_call 55; refine his.mono ?_; rintro e w' ⟨rfl, rfl⟩) | (go_at_call 63; refine hc0.mono ?_; rintro e w' ⟨rfl, rfl⟩))
  go_ret2
  exact ⟨rfl, rfl⟩

theorem pn_waiting (k : Int) (h : NoPort w p) : Calls Try.prog 26 #[p, .int .i64 k] w fun e w' => e = .returned (.int .i64 0) ∧ w = w' := by
  have his := pis_none p w h
  have hc0 := pn_stream k h
  go_enter Try.func26, Try.ntmps26
  go_wp2_with (first | (go_at_call 55; refine his.mono ?_; rintro e w' ⟨rfl, rfl⟩) | (go_at_call 57; refine hc0.mono ?_; rintro e w' ⟨rfl, rfl⟩))
  go_ret
  exact ⟨rfl, rfl⟩

theorem pn_peek (k n : Int) (h : NoPort w p) : Calls Try.prog 20 #[p, .int .i64 k, .int .i64 n] w fun e w' => e = .returned (.slice none 0 0) ∧ w = w' := by
  have his := pis_none p w h
  have hc0 := pn_stream k h
  go_enter Try.func20, Try.ntmps20
  go_wp2_with (first | (go_at_call 55; refine his.mono ?_; rintro e w' ⟨rfl, rfl⟩) | (go_at_call 57; refine hc0.mono ?_; rintro e w' ⟨rfl, rfl⟩))
  go_ret
  exact ⟨rfl, rfl⟩

theorem pn_take (k n : Int) (h : NoPort w p) : Calls Try.prog 18 #[p, .int .i64 k, .int .i64 n] w fun e w' => e = .returned (.slice none 0 0) ∧ w = w' := by
  have his := pis_none p w h
  have hc0 := pn_stream k h
  go_enter Try.func18, Try.ntmps18
  go_wp2_with (first | (go_at_call 55; refine his.mono ?_; rintro e w' ⟨rfl, rfl⟩) | (go_at_call 57; refine hc0.mono ?_; rintro e w' ⟨rfl, rfl⟩))
  go_ret
  exact ⟨rfl, rfl⟩

theorem pn_last (k : Int) (h : NoPort w p) : Calls Try.prog 53 #[p, .int .i64 k] w fun e w' => e = .returned (.bool false) ∧ w = w' := by
  have his := pis_none p w h
  have hc0 := pn_stream k h
  go_enter Try.func53, Try.ntmps53
  go_wp2_with (first | (go_at_call 55; refine his.mono ?_; rintro e w' ⟨rfl, rfl⟩) | (go_at_call 57; refine hc0.mono ?_; rintro e w' ⟨rfl, rfl⟩))
  go_ret
  exact ⟨rfl, rfl⟩

theorem pn_ended (k : Int) (h : NoPort w p) : Calls Try.prog 21 #[p, .int .i64 k] w fun e w' => e = .returned (.bool false) ∧ w = w' := by
  have his := pis_none p w h
  have hc0 := pn_last k h
  go_enter Try.func21, Try.ntmps21
  go_wp2_with (first | (go_at_call 55; refine his.mono ?_; rintro e w' ⟨rfl, rfl⟩) | (go_at_call 53; refine hc0.mono ?_; rintro e w' ⟨rfl, rfl⟩))
  go_ret
  exact ⟨rfl, rfl⟩

theorem pn_room (k : Int) (h : NoPort w p) : Calls Try.prog 27 #[p, .int .i64 k] w fun e w' => e = .returned (.int .i64 0) ∧ w = w' := by
  have his := pis_none p w h
  have hc0 := pn_stream k h
  go_enter Try.func27, Try.ntmps27
  go_wp2_with (first | (go_at_call 55; refine his.mono ?_; rintro e w' ⟨rfl, rfl⟩) | (go_at_call 57; refine hc0.mono ?_; rintro e w' ⟨rfl, rfl⟩))
  go_ret
  exact ⟨rfl, rfl⟩

theorem pn_send (k : Int) (ao : Option Addr) (n c : Nat) (h : NoPort w p) : Calls Try.prog 23 #[p, .int .i64 k, .slice ao n c] w fun e w' => e = .returned (.int .i64 0) ∧ w = w' := by
  have his := pis_none p w h
  have hc0 := pn_room k h
  go_enter Try.func23, Try.ntmps23
  go_wp2_with (first | (go_at_call 55; refine his.mono ?_; rintro e w' ⟨rfl, rfl⟩) | (go_at_call 27; refine hc0.mono ?_; rintro e w' ⟨rfl, rfl⟩))
  go_ret
  exact ⟨rfl, rfl⟩

theorem pn_fin (k : Int) (h : NoPort w p) : Calls Try.prog 22 #[p, .int .i64 k] w fun e w' => e = .returned (.int .i64 1) ∧ w = w' := by
  have his := pis_none p w h
  have hc0 := pn_find k h
  go_enter Try.func22, Try.ntmps22
  go_wp2_with (first | (go_at_call 55; refine his.mono ?_; rintro e w' ⟨rfl, rfl⟩) | (go_at_call 63; refine hc0.mono ?_; rintro e w' ⟨rfl, rfl⟩))
  go_ret
  exact ⟨rfl, rfl⟩

theorem pn_close (k : Int) (h : NoPort w p) : Calls Try.prog 48 #[p, .int .i64 k] w fun e w' => e = .returned (.int .i64 1) ∧ w = w' := by
  have his := pis_none p w h
  have hc0 := pn_find k h
  go_enter Try.func48, Try.ntmps48
  go_wp2_with (first | (go_at_call 55; refine his.mono ?_; rintro e w' ⟨rfl, rfl⟩) | (go_at_call 63; refine hc0.mono ?_; rintro e w' ⟨rfl, rfl⟩))
  go_ret
  exact ⟨rfl, rfl⟩

theorem pn_accept (h : NoPort w p) : Calls Try.prog 28 #[p] w fun e w' => e = .returned (.tuple #[.int .i64 0, .int .i64 1]) ∧ w = w' := by
  have his := pis_none p w h
  go_enter Try.func28, Try.ntmps28
  go_wp2_with (first | (go_at_call 55; refine his.mono ?_; rintro e w' ⟨rfl, rfl⟩))
  go_ret2
  exact ⟨rfl, rfl⟩

theorem pn_gram (h : NoPort w p) : Calls Try.prog 29 #[p] w fun e w' => e = .returned (.tuple #[.slice none 0 0, .int .i64 1]) ∧ w = w' := by
  have his := pis_none p w h
  go_enter Try.func29, Try.ntmps29
  go_wp2_with (first | (go_at_call 55; refine his.mono ?_; rintro e w' ⟨rfl, rfl⟩))
  go_ret2
  exact ⟨rfl, rfl⟩

theorem pn_post (ao : Option Addr) (n c : Nat) (h : NoPort w p) : Calls Try.prog 49 #[p, .slice ao n c] w fun e w' => e = .returned (.int .i64 1) ∧ w = w' := by
  have his := pis_none p w h
  go_enter Try.func49, Try.ntmps49
  go_wp2_with (first | (go_at_call 55; refine his.mono ?_; rintro e w' ⟨rfl, rfl⟩))
  go_ret
  exact ⟨rfl, rfl⟩

theorem pn_outs (h : NoPort w p) : Calls Try.prog 24 #[p] w fun e w' => e = .returned (.slice none 0 0) ∧ w = w' := by
  have his := pis_none p w h
  go_enter Try.func24, Try.ntmps24
  go_wp2_with (first | (go_at_call 55; refine his.mono ?_; rintro e w' ⟨rfl, rfl⟩))
  go_ret
  exact ⟨rfl, rfl⟩

theorem pn_used (h : NoPort w p) : Calls Try.prog 30 #[p] w fun e w' => e = .returned (.int .i64 0) ∧ w = w' := by
  have his := pis_none p w h
  go_enter Try.func30, Try.ntmps30
  go_wp2_with (first | (go_at_call 55; refine his.mono ?_; rintro e w' ⟨rfl, rfl⟩))
  go_ret
  exact ⟨rfl, rfl⟩

theorem pn_clone (h : NoPort w p) : Calls Try.prog 33 #[p] w fun e w' => e = .returned (.pointer none) ∧ w = w' := by
  have his := pis_none p w h
  go_enter Try.func33, Try.ntmps33
  go_wp2_with (first | (go_at_call 55; refine his.mono ?_; rintro e w' ⟨rfl, rfl⟩))
  go_ret
  exact ⟨rfl, rfl⟩

theorem pn_event (kd en n : Int) (s : ByteArray) (ra : Option Addr) (rl rc : Nat) (h : NoPort w p) : Calls Try.prog 17 #[p, .agg #[.int .i64 kd, .int .i64 en, .int .i64 n, .string s, .slice ra rl rc]] w fun e w' => e = .returned (.tuple #[.int .i64 0, .int .i64 1]) ∧ Upd [] w w' := by
  have k1 : Upd [] w (w.alloc (.cells #[.int .i64 kd, .int .i64 en, .int .i64 n, .string s, .slice ra rl rc] 34)) := (Upd.refl _ _).alloc _
  have his := pis_none p _ (h.upd k1)
  go_enter Try.func17, Try.ntmps17
  go_wp2_with (first | (go_at_call 55; refine his.mono ?_; rintro e w' ⟨rfl, rfl⟩))
  go_ret2
  exact ⟨rfl, k1⟩

theorem pn_dial (da db dc dd port : Int) (s : ByteArray) (h : NoPort w p) : Calls Try.prog 52 #[p, .agg #[.int .u8 da, .int .u8 db, .int .u8 dc, .int .u8 dd, .string s, .int .i64 port]] w fun e w' => e = .returned (.tuple #[.int .i64 0, .int .i64 1]) ∧ Upd [] w w' := by
  have k1 : Upd [] w (w.alloc (.cells #[.int .u8 da, .int .u8 db, .int .u8 dc, .int .u8 dd, .string s, .int .i64 port] 49)) := (Upd.refl _ _).alloc _
  have his := pis_none p _ (h.upd k1)
  go_enter Try.func52, Try.ntmps52
  go_wp2_with (first | (go_at_call 55; refine his.mono ?_; rintro e w' ⟨rfl, rfl⟩))
  go_ret2
  exact ⟨rfl, k1⟩

end

end Go.Proofs.Ytnbhgfnjnccakaa
