/- A port that no call made: the walk of the law PortNone (written by gen_portn.py). -/
import Derived.Test.YtnbhgfnjnccakaaPortN1
import Derived.Test.YtnbhgfnjnccakaaPortArg2
namespace Go.Proofs.Ytnbhgfnjnccakaa
open Go Go.RowKit
set_option linter.unusedVariables false

set_option maxHeartbeats 4000000 in
set_option maxRecDepth 100000 in
theorem portNone_law (w : World) (kd en n : Int) (s : ByteArray) (ra : Option Addr) (rl rc : Nat) (da db dc dd port : Int) (t : ByteArray) :
    Calls Try.prog 13 #[.agg #[.int .i64 kd, .int .i64 en, .int .i64 n, .string s, .slice ra rl rc], .agg #[.int .u8 da, .int .u8 db, .int .u8 dc, .int .u8 dd, .string t, .int .i64 port]] w (Fine w (.bool true)) := by
  have hU : Upd [] w ((w.alloc (.cells #[.int .i64 kd, .int .i64 en, .int .i64 n, .string s, .slice ra rl rc] 34)).alloc (.cells #[.int .u8 da, .int .u8 db, .int .u8 dc, .int .u8 dd, .string t, .int .i64 port] 49)) := ((Upd.refl _ _).alloc _).alloc _
  have B := (blk_new' w 34 #[.int .i64 kd, .int .i64 en, .int .i64 n, .string s, .slice ra rl rc]).alloc (.cells #[.int .u8 da, .int .u8 db, .int .u8 dc, .int .u8 dd, .string t, .int .i64 port] 49)
  have D := blk_new' (w.alloc (.cells #[.int .i64 kd, .int .i64 en, .int .i64 n, .string s, .slice ra rl rc] 34)) 49 #[.int .u8 da, .int .u8 db, .int .u8 dc, .int .u8 dd, .string t, .int .i64 port]
  rw [World.size_alloc] at D
  go_enter Try.func13, Try.ntmps13
  go_wp2_with fail
  generalize w.heap.size = H at *
  generalize (w.alloc (.cells #[.int .i64 kd, .int .i64 en, .int .i64 n, .string s, .slice ra rl rc] 34)).alloc (.cells #[.int .u8 da, .int .u8 db, .int .u8 dc, .int .u8 dd, .string t, .int .i64 port] 49) = w0 at *
  refine (port_works _).mono ?_
  rintro e w1 ⟨rfl, k⟩
  have hU := hU.trans_same k
  have B := B.upd k (by simp)
  have D := D.upd k (by simp)
  clear k
  have k : Upd [] w1 (w1.alloc (.cells #[.int .i64 0, .slice none 0 0, .slice none 0 0, .slice none 0 0, .bool false] 100)) := (Upd.refl _ _).alloc _
  have hS : NoPort (w1.alloc (.cells #[.int .i64 0, .slice none 0 0, .slice none 0 0, .slice none 0 0, .bool false] 100)) (.pointer (some ⟨w1.heap.size, 0, none⟩)) := Or.inr ⟨_, rfl, by simp⟩
  have hU := hU.trans_same k
  have B := B.upd k (by simp)
  have D := D.upd k (by simp)
  clear k
  have x0 := B.cell (i := 0) rfl
  have x1 := B.cell (i := 1) rfl
  have x2 := B.cell (i := 2) rfl
  have x3 := B.cell (i := 3) rfl
  have x4 := B.cell (i := 4) rfl
  go_wp2_with fail
  generalize w1.heap.size = Z at *
  generalize w1.alloc (.cells #[.int .i64 0, .slice none 0 0, .slice none 0 0, .slice none 0 0, .bool false] 100) = w2 at *
  refine (pn_event kd en n s ra rl rc (Or.inl rfl)).mono ?_
  rintro e w3 ⟨rfl, k⟩
  have hU := hU.trans_same k
  have B := B.upd k (by simp)
  have D := D.upd k (by simp)
  have hS := hS.upd k
  clear k x0 x1 x2 x3 x4
  have x0 := B.cell (i := 0) rfl
  have x1 := B.cell (i := 1) rfl
  have x2 := B.cell (i := 2) rfl
  have x3 := B.cell (i := 3) rfl
  have x4 := B.cell (i := 4) rfl
  go_wp2_with fail
  refine (pn_event kd en n s ra rl rc hS).mono ?_
  rintro e w4 ⟨rfl, k⟩
  have hU := hU.trans_same k
  have D := D.upd k (by simp)
  have hS := hS.upd k
  clear k x0 x1 x2 x3 x4 B
  have y0 := D.cell (i := 0) rfl
  have y1 := D.cell (i := 1) rfl
  have y2 := D.cell (i := 2) rfl
  have y3 := D.cell (i := 3) rfl
  have y4 := D.cell (i := 4) rfl
  have y5 := D.cell (i := 5) rfl
  go_wp2_with (first
    | (go_at_call 28; refine (pn_accept (by first | exact Or.inl rfl | exact hS)).mono ?_; rintro e w' ⟨rfl, rfl⟩)
    | (go_at_call 25; refine (pn_state 0 (by first | exact Or.inl rfl | exact hS)).mono ?_; rintro e w' ⟨rfl, rfl⟩))
  refine (pn_dial da db dc dd port t (Or.inl rfl)).mono ?_
  rintro e w5 ⟨rfl, k⟩
  have hU := hU.trans_same k
  have D := D.upd k (by simp)
  have hS := hS.upd k
  clear k y0 y1 y2 y3 y4 y5
  have y0 := D.cell (i := 0) rfl
  have y1 := D.cell (i := 1) rfl
  have y2 := D.cell (i := 2) rfl
  have y3 := D.cell (i := 3) rfl
  have y4 := D.cell (i := 4) rfl
  have y5 := D.cell (i := 5) rfl
  go_wp2_with fail
  refine (pn_dial da db dc dd port t hS).mono ?_
  rintro e w6 ⟨rfl, k⟩
  have hU := hU.trans_same k
  have hS := hS.upd k
  clear k y0 y1 y2 y3 y4 y5 D
  have kc := fun (w : World) (C : Array Value) (n c : Nat) => Lib.run_convert_bytes_const (P := Try.prog) w 35 5 C n c Try.underlying35 Try.underlying5
  have kc2 := Go.Joins.run_convert_bytes_const_at (P := Try.prog) (w6.alloc (.cells #[.int .u8 120] 5 (1, 2))) 35 5 #[.int .u8 120] 1 1 (w6.heap.size + 1) (by simp) Try.underlying35 Try.underlying5
  go_wp2_with (first
    | (go_at_call 29; refine (pn_gram (by first | exact Or.inl rfl | exact hS | exact hS.upd ((Upd.refl [] _).alloc _) | exact hS.upd (((Upd.refl [] _).alloc _).alloc _))).mono ?_; rintro e w' ⟨rfl, rfl⟩)
    | (go_at_call 22; refine (pn_fin 0 (by first | exact Or.inl rfl | exact hS | exact hS.upd ((Upd.refl [] _).alloc _) | exact hS.upd (((Upd.refl [] _).alloc _).alloc _))).mono ?_; rintro e w' ⟨rfl, rfl⟩)
    | (go_at_call 48; refine (pn_close 0 (by first | exact Or.inl rfl | exact hS | exact hS.upd ((Upd.refl [] _).alloc _) | exact hS.upd (((Upd.refl [] _).alloc _).alloc _))).mono ?_; rintro e w' ⟨rfl, rfl⟩)
    | (go_at_call 49; refine (pn_post none 0 0 (by first | exact Or.inl rfl | exact hS | exact hS.upd ((Upd.refl [] _).alloc _) | exact hS.upd (((Upd.refl [] _).alloc _).alloc _))).mono ?_; rintro e w' ⟨rfl, rfl⟩)
    | (go_at_call 27; refine (pn_room 0 (by first | exact Or.inl rfl | exact hS | exact hS.upd ((Upd.refl [] _).alloc _) | exact hS.upd (((Upd.refl [] _).alloc _).alloc _))).mono ?_; rintro e w' ⟨rfl, rfl⟩)
    | (go_at_call 26; refine (pn_waiting 0 (by first | exact Or.inl rfl | exact hS | exact hS.upd ((Upd.refl [] _).alloc _) | exact hS.upd (((Upd.refl [] _).alloc _).alloc _))).mono ?_; rintro e w' ⟨rfl, rfl⟩)
    | (go_at_call 30; refine (pn_used (by first | exact Or.inl rfl | exact hS | exact hS.upd ((Upd.refl [] _).alloc _) | exact hS.upd (((Upd.refl [] _).alloc _).alloc _))).mono ?_; rintro e w' ⟨rfl, rfl⟩)
    | (go_at_call 18; refine (pn_take 0 1 (by first | exact Or.inl rfl | exact hS | exact hS.upd ((Upd.refl [] _).alloc _) | exact hS.upd (((Upd.refl [] _).alloc _).alloc _))).mono ?_; rintro e w' ⟨rfl, rfl⟩)
    | (go_at_call 20; refine (pn_peek 0 1 (by first | exact Or.inl rfl | exact hS | exact hS.upd ((Upd.refl [] _).alloc _) | exact hS.upd (((Upd.refl [] _).alloc _).alloc _))).mono ?_; rintro e w' ⟨rfl, rfl⟩)
    | (go_at_call 24; refine (pn_outs (by first | exact Or.inl rfl | exact hS | exact hS.upd ((Upd.refl [] _).alloc _) | exact hS.upd (((Upd.refl [] _).alloc _).alloc _))).mono ?_; rintro e w' ⟨rfl, rfl⟩)
    | (go_at_call 53; refine (pn_last 0 (by first | exact Or.inl rfl | exact hS | exact hS.upd ((Upd.refl [] _).alloc _) | exact hS.upd (((Upd.refl [] _).alloc _).alloc _))).mono ?_; rintro e w' ⟨rfl, rfl⟩)
    | (go_at_call 21; refine (pn_ended 0 (by first | exact Or.inl rfl | exact hS | exact hS.upd ((Upd.refl [] _).alloc _) | exact hS.upd (((Upd.refl [] _).alloc _).alloc _))).mono ?_; rintro e w' ⟨rfl, rfl⟩)
    | (go_at_call 33; refine (pn_clone (by first | exact Or.inl rfl | exact hS | exact hS.upd ((Upd.refl [] _).alloc _) | exact hS.upd (((Upd.refl [] _).alloc _).alloc _))).mono ?_; rintro e w' ⟨rfl, rfl⟩)
    | (go_at_call 23; refine (pn_send 0 _ 1 1 (by first | exact Or.inl rfl | exact hS | exact hS.upd ((Upd.refl [] _).alloc _) | exact hS.upd (((Upd.refl [] _).alloc _).alloc _))).mono ?_; rintro e w' ⟨rfl, rfl⟩))
  go_ret
  exact ⟨rfl, (hU.alloc _).alloc _⟩

end Go.Proofs.Ytnbhgfnjnccakaa
