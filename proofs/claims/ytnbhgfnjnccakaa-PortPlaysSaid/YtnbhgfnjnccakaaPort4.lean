/- The walks of the port's Event: opening, data, end. -/
import Derived.Test.YtnbhgfnjnccakaaPort3
import Derived.Lib.ConvBytes
namespace Go.Proofs.Ytnbhgfnjnccakaa
open Go Go.RowKit
set_option linter.unusedVariables false

/-- An event as one value. -/
def evV (kd en n : Int) (bs : List UInt8) (ra : Option Addr) (rl rc : Nat) : Value := .agg #[.int .i64 kd, .int .i64 en, .int .i64 n, .string (strB bs), .slice ra rl rc]

theorem strB_size (bs : List UInt8) : (strB bs).size = bs.length := rfl

/-- A string's bytes, as a new block. -/
theorem conv_bytes (w : World) (bs : List UInt8) (hl : bs.length ≤ 140737488355328) : ∃ c w', (convert 9 35 (.string (strB bs))).run Try.prog w = .ok (.slice (some ⟨w.heap.size, 0, none⟩) bs.length c) w' ∧ Rd w' (.slice (some ⟨w.heap.size, 0, none⟩) bs.length c) bs ∧ Upd [] w w' := by
  refine ⟨_, _, Lib.run_convert_string_bytes (P := Try.prog) w 9 35 5 (strB bs) Try.underlying9 Try.underlying35 Try.underlying5, ⟨_, _, rfl, grownCap_ge _ _ _ _, ?_, (fun h => by cases h), fun ad had => ?_⟩, ?_⟩
  · have := grownCap_le_maxLen w (strB bs).size 0 5 (by rw [strB_size]; unfold maxLen; omega)
    unfold maxLen at this; exact this
  · cases had
    refine ⟨fun _ => rfl, fun j u hj => ?_⟩
    have hjl : j < bs.length := by have := (List.getElem?_eq_some_iff.1 hj).1; simpa using this
    have := Lib.bytesWorld_cell w 5 (strB bs) j (by rw [strB_size]; exact hjl)
    rw [Nat.zero_add, this, ← hj]
    simp [strB, List.getD, hjl, byteV]
  · exact ⟨rfl, rfl, rfl, by rw [Lib.bytesWorld_size]; omega, fun k hk _ => Lib.bytesWorld_at_old w 5 (strB bs) k hk⟩

section
variable {w w1 : World} {base b : Nat} {l : PLay} {p : PortM}

theorem pt_stream_at {i g off cap : Nat} {x : EndM} (h : PortAt w base b l p) (hx : p.ends[i]? = some x) (hv : l.vl = .slice (some ⟨g, off, none⟩) p.ends.length cap) :
    Calls Try.prog 57 #[.pointer (some ⟨b, 0, none⟩), .int .i64 i] w fun e w' => e = .returned (.pointer (some ⟨g, off + i * 6, none⟩)) ∧ w = w' := by
  refine (pt_stream i h).mono ?_
  rintro e w' ⟨⟨a, rfl, hs⟩, rfl⟩
  rcases hs with ⟨hn, _⟩ | ⟨j, y, g', off', cap', hij, hy, _, hv', rfl⟩
  · rw [PortM.at?_nat, hx] at hn; cases hn
  · have : i = j := by omega
    subst this
    rw [hv] at hv'
    cases hv'
    exact ⟨rfl, rfl⟩
theorem pt_stream_none {k : Int} (h : PortAt w base b l p) (hn : p.at? k = none) :
    Calls Try.prog 57 #[.pointer (some ⟨b, 0, none⟩), .int .i64 k] w fun e w' => e = .returned (.pointer none) ∧ w = w' := by
  refine (pt_stream k h).mono ?_
  rintro e w' ⟨⟨a, rfl, hs⟩, rfl⟩
  rcases hs with ⟨_, rfl⟩ | ⟨j, y, g', off', cap', hij, hy, hs, _⟩
  · exact ⟨rfl, rfl⟩
  · rw [hn] at hs; cases hs

/-- What an event leaves: two numbers, and the port. -/
def EvPost (w : World) (base b : Nat) (l : PLay) (a c : Nat) (p' : PortM) (e : Ending) (w' : World) : Prop := e = .returned (.tuple #[.int .i64 a, .int .i64 c]) ∧ PSame w base b l p' w'

set_option maxHeartbeats 1000000 in
set_option maxRecDepth 100000 in
theorem ev_none (kd en n : Int) (bs : List UInt8) (ra : Option Addr) (rl rc : Nat) (h : PortAt w base b l p) (hk : kd ≠ 8) (hn : p.at? en = none) :
    Calls Try.prog 17 #[.pointer (some ⟨b, 0, none⟩), evV kd en n bs ra rl rc] w (EvPost w base b l 0 2 p) := by
  unfold evV
  have hX := blk_new' w 34 #[.int .i64 kd, .int .i64 en, .int .i64 n, .string (strB bs), .slice ra rl rc]
  have k1 : Upd [] w (w.alloc (.cells #[.int .i64 kd, .int .i64 en, .int .i64 n, .string (strB bs), .slice ra rl rc] 34)) := (Upd.refl _ _).alloc _
  have h1 := h.upd k1 (by simp)
  have his := pt_is h1
  have hs := pt_stream_none h1 hn
  have x0 := hX.cell (i := 0) rfl
  have x1 := hX.cell (i := 1) rfl
  go_enter Try.func17, Try.ntmps17
  go_wp2_with (first | (go_at_call 55; refine his.mono ?_; rintro e w' ⟨rfl, rfl⟩) | (go_at_call 57; refine hs.mono ?_; rintro e w' ⟨rfl, rfl⟩))
  go_ret2
  exact ⟨rfl, h1, k1.mono (by simp)⟩

set_option maxHeartbeats 1000000 in
set_option maxRecDepth 100000 in
theorem ev_open_server (en n : Int) (bs : List UInt8) (ra : Option Addr) (rl rc : Nat) {i : Nat} {x : EndM} (h : PortAt w base b l p) (hx : p.ends[i]? = some x) (hc : ¬ i < p.clients) :
    Calls Try.prog 17 #[.pointer (some ⟨b, 0, none⟩), evV 1 i n bs ra rl rc] w (EvPost w base b l 0 2 p) := by
  unfold evV
  have hX := blk_new' w 34 #[.int .i64 1, .int .i64 i, .int .i64 n, .string (strB bs), .slice ra rl rc]
  have k1 : Upd [] w (w.alloc (.cells #[.int .i64 1, .int .i64 i, .int .i64 n, .string (strB bs), .slice ra rl rc] 34)) := (Upd.refl _ _).alloc _
  have h1 := h.upd k1 (by simp)
  have his := pt_is h1
  obtain ⟨g, off, cap, hv, hg, c0, c1, c2, c3, c4, c5, hfz⟩ := h1.cells hx
  have hs := pt_stream_at h1 hx hv
  have x0 := hX.cell (i := 0) rfl
  have x1 := hX.cell (i := 1) rfl
  have b0 := h1.blk.cell (i := 0) rfl
  have hcl : decide (i < p.clients) = false := decide_eq_false hc
  clear hfz
  go_enter Try.func17, Try.ntmps17
  go_wp2_with (first | (go_at_call 55; refine his.mono ?_; rintro e w' ⟨rfl, rfl⟩) | (go_at_call 57; refine hs.mono ?_; rintro e w' ⟨rfl, rfl⟩))
  go_quiet (fail)
  go_wp2_with fail
  go_ret2
  exact ⟨rfl, h1.drewN _, (k1.mono (by simp)).drewN _⟩

end

end Go.Proofs.Ytnbhgfnjnccakaa
