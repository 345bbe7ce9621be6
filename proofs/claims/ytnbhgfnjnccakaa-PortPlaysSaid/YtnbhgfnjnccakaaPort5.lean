/- The walks of the port's Event, way by way (written by gen_port5.py). -/
import Derived.Test.YtnbhgfnjnccakaaPort4
namespace Go.Proofs.Ytnbhgfnjnccakaa
open Go Go.RowKit
set_option linter.unusedVariables false

section
variable {w w1 : World} {base b : Nat} {l : PLay} {p : PortM}

theorem PortAt.cellsAt {i g off cap n : Nat} {e : EndM} (h : PortAt w base b l p) (hi : p.ends[i]? = some e) (hv : l.vl = .slice (some ⟨g, off, none⟩) n cap) :
    w.cell? ⟨g, off + i * 6, none⟩ = some (.pointer (some ⟨l.rb i, 0, none⟩)) ∧ w.cell? ⟨g, off + i * 6 + 1, none⟩ = some (.int .i64 e.st) ∧ w.cell? ⟨g, off + i * 6 + 2, none⟩ = some (.int .i64 e.room) ∧
      w.cell? ⟨g, off + i * 6 + 3, none⟩ = some (.bool e.fresh) ∧ w.cell? ⟨g, off + i * 6 + 4, none⟩ = some (.bool e.theirs) ∧ w.cell? ⟨g, off + i * 6 + 5, none⟩ = some (.bool e.ours) ∧ ∀ j, w.frozen? ⟨g, j, none⟩ = false := by
  obtain ⟨g', off', cap', hv', _, r⟩ := h.cells hi
  rw [hv] at hv'
  injection hv' with e1 _ _
  injection e1 with e1
  injection e1 with e1 e2
  subst e1 e2
  exact r

set_option maxHeartbeats 1000000 in
set_option maxRecDepth 100000 in
theorem ev_open_busy (n : Int) (bs : List UInt8) (ra : Option Addr) (rl rc : Nat) {i : Nat} {x : EndM} (h : PortAt w base b l p) (hx : p.ends[i]? = some x) (hc : i < p.clients) (hst : x.st ≠ 0) :
    Calls Try.prog 17 #[.pointer (some ⟨b, 0, none⟩), evV 1 i n bs ra rl rc] w (EvPost w base b l 0 151 p) := by
  unfold evV
  have hX := blk_new' w 34 #[.int .i64 1, .int .i64 i, .int .i64 n, .string (strB bs), .slice ra rl rc]
  have k1 : Upd [] w (w.alloc (.cells #[.int .i64 1, .int .i64 i, .int .i64 n, .string (strB bs), .slice ra rl rc] 34)) := (Upd.refl _ _).alloc _
  have h1 := h.upd k1 (by simp)
  have his := pt_is h1
  obtain ⟨g, off, cap, hv, hg, _⟩ := h1.cells hx
  obtain ⟨c0, c1, c2, c3, c4, c5, hfz⟩ := h1.cellsAt hx hv
  have hs := pt_stream_at h1 hx hv
  have hil := (List.getElem?_eq_some_iff.1 hx).1
  have hfx := h.fine x (List.mem_of_getElem? hx)
  have x0 := hX.cell (i := 0) rfl
  have x1 := hX.cell (i := 1) rfl
  have x2 := hX.cell (i := 2) rfl
  have x3 := hX.cell (i := 3) rfl
  have b0 := h1.blk.cell (i := 0) rfl
  have hcl : decide (i < p.clients) = true := decide_eq_true hc
  have hst' : ¬ (x.st : Int) = 0 := by omega
  clear hfz
  go_enter Try.func17, Try.ntmps17
  go_wp2_with (first | (go_at_call 55; refine his.mono ?_; rintro e w' ⟨rfl, rfl⟩) | (go_at_call 57; refine hs.mono ?_; rintro e w' ⟨rfl, rfl⟩))
  go_quiet (fail)
  go_wp2_with fail
  go_ret2
  exact ⟨rfl, h1.drewN _, (k1.mono (by simp)).drewN _⟩


set_option maxHeartbeats 1000000 in
set_option maxRecDepth 100000 in
theorem ev_open_ok (n : Int) (bs : List UInt8) (ra : Option Addr) (rl rc : Nat) {i : Nat} {x : EndM} (h : PortAt w base b l p) (hx : p.ends[i]? = some x) (hc : i < p.clients) (hst : x.st = 0) :
    Calls Try.prog 17 #[.pointer (some ⟨b, 0, none⟩), evV 1 i n bs ra rl rc] w (EvPost w base b l 0 0 (p.setEnd i { EndM.reset 1 with fresh := true })) := by
  unfold evV
  have hX := blk_new' w 34 #[.int .i64 1, .int .i64 i, .int .i64 n, .string (strB bs), .slice ra rl rc]
  have k1 : Upd [] w (w.alloc (.cells #[.int .i64 1, .int .i64 i, .int .i64 n, .string (strB bs), .slice ra rl rc] 34)) := (Upd.refl _ _).alloc _
  have h1 := h.upd k1 (by simp)
  have his := pt_is h1
  obtain ⟨g, off, cap, hv, hg, _⟩ := h1.cells hx
  obtain ⟨c0, c1, c2, c3, c4, c5, hfz⟩ := h1.cellsAt hx hv
  have hs := pt_stream_at h1 hx hv
  have hil := (List.getElem?_eq_some_iff.1 hx).1
  have hfx := h.fine x (List.mem_of_getElem? hx)
  have x0 := hX.cell (i := 0) rfl
  have x1 := hX.cell (i := 1) rfl
  have x2 := hX.cell (i := 2) rfl
  have x3 := hX.cell (i := 3) rfl
  have b0 := h1.blk.cell (i := 0) rfl
  have hcl : decide (i < p.clients) = true := decide_eq_true hc
  rw [hst] at c1
  clear hfz
  go_enter Try.func17, Try.ntmps17
  go_wp2_with (first | (go_at_call 55; refine his.mono ?_; rintro e w' ⟨rfl, rfl⟩) | (go_at_call 57; refine hs.mono ?_; rintro e w' ⟨rfl, rfl⟩))
  go_quiet (fail)
  go_wp2_with fail
  refine (pt_again 1 (by decide) (h1.drewN _) hx hv).mono ?_
  rintro e w3 ⟨rfl, hp⟩
  obtain ⟨d0, d1, d2, d3, d4, d5, hfz⟩ := hp.1.cellsAt (PortM.setEnd_get hil) hv
  have f3 := hfz (off + i * 6 + 3)
  have pp := hp.1.step (j := 3) (e' := { EndM.reset 1 with fresh := true }) (u := .bool true) (PortM.setEnd_get hil) hv (by decide) rfl rfl ⟨by decide, Nat.zero_le _⟩
  rw [PortM.setEnd_set] at pp
  clear hfz
  go_wp2_with fail
  go_ret2
  exact ⟨rfl, pp.1, (((k1.mono (by simp)).drewN _).trans_same hp.2).trans_same pp.2⟩


set_option maxHeartbeats 1000000 in
set_option maxRecDepth 100000 in
theorem ev_data_st (n : Int) (bs : List UInt8) (ra : Option Addr) (rl rc : Nat) {i : Nat} {x : EndM} (h : PortAt w base b l p) (hx : p.ends[i]? = some x) (hst : x.st ≠ 1) :
    Calls Try.prog 17 #[.pointer (some ⟨b, 0, none⟩), evV 2 i n bs ra rl rc] w (EvPost w base b l 0 150 p) := by
  unfold evV
  have hX := blk_new' w 34 #[.int .i64 2, .int .i64 i, .int .i64 n, .string (strB bs), .slice ra rl rc]
  have k1 : Upd [] w (w.alloc (.cells #[.int .i64 2, .int .i64 i, .int .i64 n, .string (strB bs), .slice ra rl rc] 34)) := (Upd.refl _ _).alloc _
  have h1 := h.upd k1 (by simp)
  have his := pt_is h1
  obtain ⟨g, off, cap, hv, hg, _⟩ := h1.cells hx
  obtain ⟨c0, c1, c2, c3, c4, c5, hfz⟩ := h1.cellsAt hx hv
  have hs := pt_stream_at h1 hx hv
  have hil := (List.getElem?_eq_some_iff.1 hx).1
  have hfx := h.fine x (List.mem_of_getElem? hx)
  have x0 := hX.cell (i := 0) rfl
  have x1 := hX.cell (i := 1) rfl
  have x2 := hX.cell (i := 2) rfl
  have x3 := hX.cell (i := 3) rfl
  have b0 := h1.blk.cell (i := 0) rfl
  have hst' : ¬ (x.st : Int) = 1 := by omega
  clear hfz
  go_enter Try.func17, Try.ntmps17
  go_wp2_with (first | (go_at_call 55; refine his.mono ?_; rintro e w' ⟨rfl, rfl⟩) | (go_at_call 57; refine hs.mono ?_; rintro e w' ⟨rfl, rfl⟩))
  go_quiet (fail)
  go_wp2_with fail
  go_ret2
  exact ⟨rfl, h1.drewN _, (k1.mono (by simp)).drewN _⟩


set_option maxHeartbeats 1000000 in
set_option maxRecDepth 100000 in
theorem ev_data_th (n : Int) (bs : List UInt8) (ra : Option Addr) (rl rc : Nat) {i : Nat} {x : EndM} (h : PortAt w base b l p) (hx : p.ends[i]? = some x) (hst : x.st = 1) (hth : x.theirs = true) :
    Calls Try.prog 17 #[.pointer (some ⟨b, 0, none⟩), evV 2 i n bs ra rl rc] w (EvPost w base b l 0 150 p) := by
  unfold evV
  have hX := blk_new' w 34 #[.int .i64 2, .int .i64 i, .int .i64 n, .string (strB bs), .slice ra rl rc]
  have k1 : Upd [] w (w.alloc (.cells #[.int .i64 2, .int .i64 i, .int .i64 n, .string (strB bs), .slice ra rl rc] 34)) := (Upd.refl _ _).alloc _
  have h1 := h.upd k1 (by simp)
  have his := pt_is h1
  obtain ⟨g, off, cap, hv, hg, _⟩ := h1.cells hx
  obtain ⟨c0, c1, c2, c3, c4, c5, hfz⟩ := h1.cellsAt hx hv
  have hs := pt_stream_at h1 hx hv
  have hil := (List.getElem?_eq_some_iff.1 hx).1
  have hfx := h.fine x (List.mem_of_getElem? hx)
  have x0 := hX.cell (i := 0) rfl
  have x1 := hX.cell (i := 1) rfl
  have x2 := hX.cell (i := 2) rfl
  have x3 := hX.cell (i := 3) rfl
  have b0 := h1.blk.cell (i := 0) rfl
  rw [hst] at c1
  rw [hth] at c4
  clear hfz
  go_enter Try.func17, Try.ntmps17
  go_wp2_with (first | (go_at_call 55; refine his.mono ?_; rintro e w' ⟨rfl, rfl⟩) | (go_at_call 57; refine hs.mono ?_; rintro e w' ⟨rfl, rfl⟩))
  go_quiet (fail)
  go_wp2_with fail
  go_ret2
  exact ⟨rfl, h1.drewN _, (k1.mono (by simp)).drewN _⟩


set_option maxHeartbeats 1000000 in
set_option maxRecDepth 100000 in
theorem ev_fin_st (n : Int) (bs : List UInt8) (ra : Option Addr) (rl rc : Nat) {i : Nat} {x : EndM} (h : PortAt w base b l p) (hx : p.ends[i]? = some x) (hst : x.st ≠ 1) :
    Calls Try.prog 17 #[.pointer (some ⟨b, 0, none⟩), evV 3 i n bs ra rl rc] w (EvPost w base b l 0 150 p) := by
  unfold evV
  have hX := blk_new' w 34 #[.int .i64 3, .int .i64 i, .int .i64 n, .string (strB bs), .slice ra rl rc]
  have k1 : Upd [] w (w.alloc (.cells #[.int .i64 3, .int .i64 i, .int .i64 n, .string (strB bs), .slice ra rl rc] 34)) := (Upd.refl _ _).alloc _
  have h1 := h.upd k1 (by simp)
  have his := pt_is h1
  obtain ⟨g, off, cap, hv, hg, _⟩ := h1.cells hx
  obtain ⟨c0, c1, c2, c3, c4, c5, hfz⟩ := h1.cellsAt hx hv
  have hs := pt_stream_at h1 hx hv
  have hil := (List.getElem?_eq_some_iff.1 hx).1
  have hfx := h.fine x (List.mem_of_getElem? hx)
  have x0 := hX.cell (i := 0) rfl
  have x1 := hX.cell (i := 1) rfl
  have x2 := hX.cell (i := 2) rfl
  have x3 := hX.cell (i := 3) rfl
  have b0 := h1.blk.cell (i := 0) rfl
  have hst' : ¬ (x.st : Int) = 1 := by omega
  clear hfz
  go_enter Try.func17, Try.ntmps17
  go_wp2_with (first | (go_at_call 55; refine his.mono ?_; rintro e w' ⟨rfl, rfl⟩) | (go_at_call 57; refine hs.mono ?_; rintro e w' ⟨rfl, rfl⟩))
  go_quiet (fail)
  go_wp2_with fail
  go_ret2
  exact ⟨rfl, h1.drewN _, (k1.mono (by simp)).drewN _⟩


set_option maxHeartbeats 1000000 in
set_option maxRecDepth 100000 in
theorem ev_fin_th (n : Int) (bs : List UInt8) (ra : Option Addr) (rl rc : Nat) {i : Nat} {x : EndM} (h : PortAt w base b l p) (hx : p.ends[i]? = some x) (hst : x.st = 1) (hth : x.theirs = true) :
    Calls Try.prog 17 #[.pointer (some ⟨b, 0, none⟩), evV 3 i n bs ra rl rc] w (EvPost w base b l 0 150 p) := by
  unfold evV
  have hX := blk_new' w 34 #[.int .i64 3, .int .i64 i, .int .i64 n, .string (strB bs), .slice ra rl rc]
  have k1 : Upd [] w (w.alloc (.cells #[.int .i64 3, .int .i64 i, .int .i64 n, .string (strB bs), .slice ra rl rc] 34)) := (Upd.refl _ _).alloc _
  have h1 := h.upd k1 (by simp)
  have his := pt_is h1
  obtain ⟨g, off, cap, hv, hg, _⟩ := h1.cells hx
  obtain ⟨c0, c1, c2, c3, c4, c5, hfz⟩ := h1.cellsAt hx hv
  have hs := pt_stream_at h1 hx hv
  have hil := (List.getElem?_eq_some_iff.1 hx).1
  have hfx := h.fine x (List.mem_of_getElem? hx)
  have x0 := hX.cell (i := 0) rfl
  have x1 := hX.cell (i := 1) rfl
  have x2 := hX.cell (i := 2) rfl
  have x3 := hX.cell (i := 3) rfl
  have b0 := h1.blk.cell (i := 0) rfl
  rw [hst] at c1
  rw [hth] at c4
  clear hfz
  go_enter Try.func17, Try.ntmps17
  go_wp2_with (first | (go_at_call 55; refine his.mono ?_; rintro e w' ⟨rfl, rfl⟩) | (go_at_call 57; refine hs.mono ?_; rintro e w' ⟨rfl, rfl⟩))
  go_quiet (fail)
  go_wp2_with fail
  go_ret2
  exact ⟨rfl, h1.drewN _, (k1.mono (by simp)).drewN _⟩


set_option maxHeartbeats 1000000 in
set_option maxRecDepth 100000 in
theorem ev_fin_ok (n : Int) (bs : List UInt8) (ra : Option Addr) (rl rc : Nat) {i : Nat} {x : EndM} (h : PortAt w base b l p) (hx : p.ends[i]? = some x) (hst : x.st = 1) (hth : x.theirs = false) :
    Calls Try.prog 17 #[.pointer (some ⟨b, 0, none⟩), evV 3 i n bs ra rl rc] w (EvPost w base b l 0 0 (p.setEnd i { x with theirs := true })) := by
  unfold evV
  have hX := blk_new' w 34 #[.int .i64 3, .int .i64 i, .int .i64 n, .string (strB bs), .slice ra rl rc]
  have k1 : Upd [] w (w.alloc (.cells #[.int .i64 3, .int .i64 i, .int .i64 n, .string (strB bs), .slice ra rl rc] 34)) := (Upd.refl _ _).alloc _
  have h1 := h.upd k1 (by simp)
  have his := pt_is h1
  obtain ⟨g, off, cap, hv, hg, _⟩ := h1.cells hx
  obtain ⟨c0, c1, c2, c3, c4, c5, hfz⟩ := h1.cellsAt hx hv
  have hs := pt_stream_at h1 hx hv
  have hil := (List.getElem?_eq_some_iff.1 hx).1
  have hfx := h.fine x (List.mem_of_getElem? hx)
  have x0 := hX.cell (i := 0) rfl
  have x1 := hX.cell (i := 1) rfl
  have x2 := hX.cell (i := 2) rfl
  have x3 := hX.cell (i := 3) rfl
  have b0 := h1.blk.cell (i := 0) rfl
  rw [hst] at c1
  rw [hth] at c4
  have f4 := hfz (off + i * 6 + 4)
  clear hfz
  go_enter Try.func17, Try.ntmps17
  go_wp2_with (first | (go_at_call 55; refine his.mono ?_; rintro e w' ⟨rfl, rfl⟩) | (go_at_call 57; refine hs.mono ?_; rintro e w' ⟨rfl, rfl⟩))
  go_quiet (fail)
  have pp := fun m => (h1.drewN m).step (j := 4) (e' := { x with theirs := true }) (u := .bool true) hx hv (by decide) rfl rfl hfx
  go_wp2_with fail
  go_ret2
  exact ⟨rfl, (pp _).1, ((k1.mono (by simp)).drewN _).trans_same (pp _).2⟩


set_option maxHeartbeats 1000000 in
set_option maxRecDepth 100000 in
theorem ev_reset_no (n : Int) (bs : List UInt8) (ra : Option Addr) (rl rc : Nat) {i : Nat} {x : EndM} (h : PortAt w base b l p) (hx : p.ends[i]? = some x) (hst : x.st = 0 ∨ x.st = 3) :
    Calls Try.prog 17 #[.pointer (some ⟨b, 0, none⟩), evV 4 i n bs ra rl rc] w (EvPost w base b l 0 150 p) := by
  unfold evV
  have hX := blk_new' w 34 #[.int .i64 4, .int .i64 i, .int .i64 n, .string (strB bs), .slice ra rl rc]
  have k1 : Upd [] w (w.alloc (.cells #[.int .i64 4, .int .i64 i, .int .i64 n, .string (strB bs), .slice ra rl rc] 34)) := (Upd.refl _ _).alloc _
  have h1 := h.upd k1 (by simp)
  have his := pt_is h1
  obtain ⟨g, off, cap, hv, hg, _⟩ := h1.cells hx
  obtain ⟨c0, c1, c2, c3, c4, c5, hfz⟩ := h1.cellsAt hx hv
  have hs := pt_stream_at h1 hx hv
  have hil := (List.getElem?_eq_some_iff.1 hx).1
  have hfx := h.fine x (List.mem_of_getElem? hx)
  have x0 := hX.cell (i := 0) rfl
  have x1 := hX.cell (i := 1) rfl
  have x2 := hX.cell (i := 2) rfl
  have x3 := hX.cell (i := 3) rfl
  have b0 := h1.blk.cell (i := 0) rfl
  clear hfz
  go_enter Try.func17, Try.ntmps17
  go_wp2_with (first | (go_at_call 55; refine his.mono ?_; rintro e w' ⟨rfl, rfl⟩) | (go_at_call 57; refine hs.mono ?_; rintro e w' ⟨rfl, rfl⟩))
  go_quiet (fail)
  rcases hst with hst | hst
  · rw [hst] at c1
    go_wp2_with fail
    go_ret2
    exact ⟨rfl, h1.drewN _, (k1.mono (by simp)).drewN _⟩
  · rw [hst] at c1
    go_wp2_with fail
    go_ret2
    exact ⟨rfl, h1.drewN _, (k1.mono (by simp)).drewN _⟩


set_option maxHeartbeats 1000000 in
set_option maxRecDepth 100000 in
theorem ev_reset_fresh (n : Int) (bs : List UInt8) (ra : Option Addr) (rl rc : Nat) {i : Nat} {x : EndM} (h : PortAt w base b l p) (hx : p.ends[i]? = some x) (hst : x.st ≠ 0) (hst3 : x.st ≠ 3) (hfr : x.fresh = true) :
    Calls Try.prog 17 #[.pointer (some ⟨b, 0, none⟩), evV 4 i n bs ra rl rc] w (EvPost w base b l 0 0 (p.setEnd i (EndM.reset 0))) := by
  unfold evV
  have hX := blk_new' w 34 #[.int .i64 4, .int .i64 i, .int .i64 n, .string (strB bs), .slice ra rl rc]
  have k1 : Upd [] w (w.alloc (.cells #[.int .i64 4, .int .i64 i, .int .i64 n, .string (strB bs), .slice ra rl rc] 34)) := (Upd.refl _ _).alloc _
  have h1 := h.upd k1 (by simp)
  have his := pt_is h1
  obtain ⟨g, off, cap, hv, hg, _⟩ := h1.cells hx
  obtain ⟨c0, c1, c2, c3, c4, c5, hfz⟩ := h1.cellsAt hx hv
  have hs := pt_stream_at h1 hx hv
  have hil := (List.getElem?_eq_some_iff.1 hx).1
  have hfx := h.fine x (List.mem_of_getElem? hx)
  have x0 := hX.cell (i := 0) rfl
  have x1 := hX.cell (i := 1) rfl
  have x2 := hX.cell (i := 2) rfl
  have x3 := hX.cell (i := 3) rfl
  have b0 := h1.blk.cell (i := 0) rfl
  have hst' : ¬ (x.st : Int) = 0 := by omega
  have hst'' : ¬ (x.st : Int) = 3 := by omega
  have hb0 : ((x.st : Int) == 0) = false := by simp; omega
  have hb3 : ((x.st : Int) == 3) = false := by simp; omega
  rw [hfr] at c3
  clear hfz
  go_enter Try.func17, Try.ntmps17
  go_wp2_with (first | (go_at_call 55; refine his.mono ?_; rintro e w' ⟨rfl, rfl⟩) | (go_at_call 57; refine hs.mono ?_; rintro e w' ⟨rfl, rfl⟩))
  go_quiet (fail)
  go_wp2_with fail
  refine (pt_again 0 (by decide) (h1.drewN _) hx hv).mono ?_
  rintro e w3 ⟨rfl, hp⟩
  go_wp2_with fail
  go_ret2
  exact ⟨rfl, hp.1, ((k1.mono (by simp)).drewN _).trans_same hp.2⟩


set_option maxHeartbeats 1000000 in
set_option maxRecDepth 100000 in
theorem ev_reset_old (n : Int) (bs : List UInt8) (ra : Option Addr) (rl rc : Nat) {i : Nat} {x : EndM} (h : PortAt w base b l p) (hx : p.ends[i]? = some x) (hst : x.st ≠ 0) (hst3 : x.st ≠ 3) (hfr : x.fresh = false) :
    Calls Try.prog 17 #[.pointer (some ⟨b, 0, none⟩), evV 4 i n bs ra rl rc] w (EvPost w base b l 0 0 (p.setEnd i (EndM.reset 3))) := by
  unfold evV
  have hX := blk_new' w 34 #[.int .i64 4, .int .i64 i, .int .i64 n, .string (strB bs), .slice ra rl rc]
  have k1 : Upd [] w (w.alloc (.cells #[.int .i64 4, .int .i64 i, .int .i64 n, .string (strB bs), .slice ra rl rc] 34)) := (Upd.refl _ _).alloc _
  have h1 := h.upd k1 (by simp)
  have his := pt_is h1
  obtain ⟨g, off, cap, hv, hg, _⟩ := h1.cells hx
  obtain ⟨c0, c1, c2, c3, c4, c5, hfz⟩ := h1.cellsAt hx hv
  have hs := pt_stream_at h1 hx hv
  have hil := (List.getElem?_eq_some_iff.1 hx).1
  have hfx := h.fine x (List.mem_of_getElem? hx)
  have x0 := hX.cell (i := 0) rfl
  have x1 := hX.cell (i := 1) rfl
  have x2 := hX.cell (i := 2) rfl
  have x3 := hX.cell (i := 3) rfl
  have b0 := h1.blk.cell (i := 0) rfl
  have hst' : ¬ (x.st : Int) = 0 := by omega
  have hst'' : ¬ (x.st : Int) = 3 := by omega
  have hb0 : ((x.st : Int) == 0) = false := by simp; omega
  have hb3 : ((x.st : Int) == 3) = false := by simp; omega
  rw [hfr] at c3
  clear hfz
  go_enter Try.func17, Try.ntmps17
  go_wp2_with (first | (go_at_call 55; refine his.mono ?_; rintro e w' ⟨rfl, rfl⟩) | (go_at_call 57; refine hs.mono ?_; rintro e w' ⟨rfl, rfl⟩))
  go_quiet (fail)
  go_wp2_with fail
  refine (pt_again 3 (by decide) (h1.drewN _) hx hv).mono ?_
  rintro e w3 ⟨rfl, hp⟩
  go_wp2_with fail
  go_ret2
  exact ⟨rfl, hp.1, ((k1.mono (by simp)).drewN _).trans_same hp.2⟩


set_option maxHeartbeats 1000000 in
set_option maxRecDepth 100000 in
theorem ev_room_neg (n : Int) (bs : List UInt8) (ra : Option Addr) (rl rc : Nat) {i : Nat} {x : EndM} (h : PortAt w base b l p) (hx : p.ends[i]? = some x) (hn : n < 0) :
    Calls Try.prog 17 #[.pointer (some ⟨b, 0, none⟩), evV 5 i n bs ra rl rc] w (EvPost w base b l 0 2 p) := by
  unfold evV
  have hX := blk_new' w 34 #[.int .i64 5, .int .i64 i, .int .i64 n, .string (strB bs), .slice ra rl rc]
  have k1 : Upd [] w (w.alloc (.cells #[.int .i64 5, .int .i64 i, .int .i64 n, .string (strB bs), .slice ra rl rc] 34)) := (Upd.refl _ _).alloc _
  have h1 := h.upd k1 (by simp)
  have his := pt_is h1
  obtain ⟨g, off, cap, hv, hg, _⟩ := h1.cells hx
  obtain ⟨c0, c1, c2, c3, c4, c5, hfz⟩ := h1.cellsAt hx hv
  have hs := pt_stream_at h1 hx hv
  have hil := (List.getElem?_eq_some_iff.1 hx).1
  have hfx := h.fine x (List.mem_of_getElem? hx)
  have x0 := hX.cell (i := 0) rfl
  have x1 := hX.cell (i := 1) rfl
  have x2 := hX.cell (i := 2) rfl
  have x3 := hX.cell (i := 3) rfl
  have b0 := h1.blk.cell (i := 0) rfl
  clear hfz
  go_enter Try.func17, Try.ntmps17
  go_wp2_with (first | (go_at_call 55; refine his.mono ?_; rintro e w' ⟨rfl, rfl⟩) | (go_at_call 57; refine hs.mono ?_; rintro e w' ⟨rfl, rfl⟩))
  go_quiet (fail)
  go_wp2_with fail
  go_ret2
  exact ⟨rfl, h1.drewN _, (k1.mono (by simp)).drewN _⟩


set_option maxHeartbeats 1000000 in
set_option maxRecDepth 100000 in
theorem ev_room_st (n : Int) (bs : List UInt8) (ra : Option Addr) (rl rc : Nat) {i : Nat} {x : EndM} (h : PortAt w base b l p) (hx : p.ends[i]? = some x) (hn : ¬ n < 0) (hst : x.st ≠ 1) :
    Calls Try.prog 17 #[.pointer (some ⟨b, 0, none⟩), evV 5 i n bs ra rl rc] w (EvPost w base b l 0 150 p) := by
  unfold evV
  have hX := blk_new' w 34 #[.int .i64 5, .int .i64 i, .int .i64 n, .string (strB bs), .slice ra rl rc]
  have k1 : Upd [] w (w.alloc (.cells #[.int .i64 5, .int .i64 i, .int .i64 n, .string (strB bs), .slice ra rl rc] 34)) := (Upd.refl _ _).alloc _
  have h1 := h.upd k1 (by simp)
  have his := pt_is h1
  obtain ⟨g, off, cap, hv, hg, _⟩ := h1.cells hx
  obtain ⟨c0, c1, c2, c3, c4, c5, hfz⟩ := h1.cellsAt hx hv
  have hs := pt_stream_at h1 hx hv
  have hil := (List.getElem?_eq_some_iff.1 hx).1
  have hfx := h.fine x (List.mem_of_getElem? hx)
  have x0 := hX.cell (i := 0) rfl
  have x1 := hX.cell (i := 1) rfl
  have x2 := hX.cell (i := 2) rfl
  have x3 := hX.cell (i := 3) rfl
  have b0 := h1.blk.cell (i := 0) rfl
  have hst' : ¬ (x.st : Int) = 1 := by omega
  clear hfz
  go_enter Try.func17, Try.ntmps17
  go_wp2_with (first | (go_at_call 55; refine his.mono ?_; rintro e w' ⟨rfl, rfl⟩) | (go_at_call 57; refine hs.mono ?_; rintro e w' ⟨rfl, rfl⟩))
  go_quiet (fail)
  go_wp2_with fail
  go_ret2
  exact ⟨rfl, h1.drewN _, (k1.mono (by simp)).drewN _⟩


set_option maxHeartbeats 1000000 in
set_option maxRecDepth 100000 in
theorem ev_up_client (n : Int) (bs : List UInt8) (ra : Option Addr) (rl rc : Nat) {i : Nat} {x : EndM} (h : PortAt w base b l p) (hx : p.ends[i]? = some x) (hc : i < p.clients) :
    Calls Try.prog 17 #[.pointer (some ⟨b, 0, none⟩), evV 6 i n bs ra rl rc] w (EvPost w base b l 0 2 p) := by
  unfold evV
  have hX := blk_new' w 34 #[.int .i64 6, .int .i64 i, .int .i64 n, .string (strB bs), .slice ra rl rc]
  have k1 : Upd [] w (w.alloc (.cells #[.int .i64 6, .int .i64 i, .int .i64 n, .string (strB bs), .slice ra rl rc] 34)) := (Upd.refl _ _).alloc _
  have h1 := h.upd k1 (by simp)
  have his := pt_is h1
  obtain ⟨g, off, cap, hv, hg, _⟩ := h1.cells hx
  obtain ⟨c0, c1, c2, c3, c4, c5, hfz⟩ := h1.cellsAt hx hv
  have hs := pt_stream_at h1 hx hv
  have hil := (List.getElem?_eq_some_iff.1 hx).1
  have hfx := h.fine x (List.mem_of_getElem? hx)
  have x0 := hX.cell (i := 0) rfl
  have x1 := hX.cell (i := 1) rfl
  have x2 := hX.cell (i := 2) rfl
  have x3 := hX.cell (i := 3) rfl
  have b0 := h1.blk.cell (i := 0) rfl
  have hcl : decide (i < p.clients) = true := decide_eq_true hc
  clear hfz
  go_enter Try.func17, Try.ntmps17
  go_wp2_with (first | (go_at_call 55; refine his.mono ?_; rintro e w' ⟨rfl, rfl⟩) | (go_at_call 57; refine hs.mono ?_; rintro e w' ⟨rfl, rfl⟩))
  go_quiet (fail)
  go_wp2_with fail
  go_ret2
  exact ⟨rfl, h1.drewN _, (k1.mono (by simp)).drewN _⟩


set_option maxHeartbeats 1000000 in
set_option maxRecDepth 100000 in
theorem ev_up_st (n : Int) (bs : List UInt8) (ra : Option Addr) (rl rc : Nat) {i : Nat} {x : EndM} (h : PortAt w base b l p) (hx : p.ends[i]? = some x) (hc : ¬ i < p.clients) (hst : x.st ≠ 2) :
    Calls Try.prog 17 #[.pointer (some ⟨b, 0, none⟩), evV 6 i n bs ra rl rc] w (EvPost w base b l 0 150 p) := by
  unfold evV
  have hX := blk_new' w 34 #[.int .i64 6, .int .i64 i, .int .i64 n, .string (strB bs), .slice ra rl rc]
  have k1 : Upd [] w (w.alloc (.cells #[.int .i64 6, .int .i64 i, .int .i64 n, .string (strB bs), .slice ra rl rc] 34)) := (Upd.refl _ _).alloc _
  have h1 := h.upd k1 (by simp)
  have his := pt_is h1
  obtain ⟨g, off, cap, hv, hg, _⟩ := h1.cells hx
  obtain ⟨c0, c1, c2, c3, c4, c5, hfz⟩ := h1.cellsAt hx hv
  have hs := pt_stream_at h1 hx hv
  have hil := (List.getElem?_eq_some_iff.1 hx).1
  have hfx := h.fine x (List.mem_of_getElem? hx)
  have x0 := hX.cell (i := 0) rfl
  have x1 := hX.cell (i := 1) rfl
  have x2 := hX.cell (i := 2) rfl
  have x3 := hX.cell (i := 3) rfl
  have b0 := h1.blk.cell (i := 0) rfl
  have hcl : decide (i < p.clients) = false := decide_eq_false hc
  have hst' : ¬ (x.st : Int) = 2 := by omega
  clear hfz
  go_enter Try.func17, Try.ntmps17
  go_wp2_with (first | (go_at_call 55; refine his.mono ?_; rintro e w' ⟨rfl, rfl⟩) | (go_at_call 57; refine hs.mono ?_; rintro e w' ⟨rfl, rfl⟩))
  go_quiet (fail)
  go_wp2_with fail
  go_ret2
  exact ⟨rfl, h1.drewN _, (k1.mono (by simp)).drewN _⟩


set_option maxHeartbeats 1000000 in
set_option maxRecDepth 100000 in
theorem ev_up_ok (n : Int) (bs : List UInt8) (ra : Option Addr) (rl rc : Nat) {i : Nat} {x : EndM} (h : PortAt w base b l p) (hx : p.ends[i]? = some x) (hc : ¬ i < p.clients) (hst : x.st = 2) :
    Calls Try.prog 17 #[.pointer (some ⟨b, 0, none⟩), evV 6 i n bs ra rl rc] w (EvPost w base b l 0 0 (p.setEnd i (EndM.reset 1))) := by
  unfold evV
  have hX := blk_new' w 34 #[.int .i64 6, .int .i64 i, .int .i64 n, .string (strB bs), .slice ra rl rc]
  have k1 : Upd [] w (w.alloc (.cells #[.int .i64 6, .int .i64 i, .int .i64 n, .string (strB bs), .slice ra rl rc] 34)) := (Upd.refl _ _).alloc _
  have h1 := h.upd k1 (by simp)
  have his := pt_is h1
  obtain ⟨g, off, cap, hv, hg, _⟩ := h1.cells hx
  obtain ⟨c0, c1, c2, c3, c4, c5, hfz⟩ := h1.cellsAt hx hv
  have hs := pt_stream_at h1 hx hv
  have hil := (List.getElem?_eq_some_iff.1 hx).1
  have hfx := h.fine x (List.mem_of_getElem? hx)
  have x0 := hX.cell (i := 0) rfl
  have x1 := hX.cell (i := 1) rfl
  have x2 := hX.cell (i := 2) rfl
  have x3 := hX.cell (i := 3) rfl
  have b0 := h1.blk.cell (i := 0) rfl
  have hcl : decide (i < p.clients) = false := decide_eq_false hc
  rw [hst] at c1
  clear hfz
  go_enter Try.func17, Try.ntmps17
  go_wp2_with (first | (go_at_call 55; refine his.mono ?_; rintro e w' ⟨rfl, rfl⟩) | (go_at_call 57; refine hs.mono ?_; rintro e w' ⟨rfl, rfl⟩))
  go_quiet (fail)
  go_wp2_with fail
  refine (pt_again 1 (by decide) (h1.drewN _) hx hv).mono ?_
  rintro e w3 ⟨rfl, hp⟩
  go_wp2_with fail
  go_ret2
  exact ⟨rfl, hp.1, ((k1.mono (by simp)).drewN _).trans_same hp.2⟩


set_option maxHeartbeats 1000000 in
set_option maxRecDepth 100000 in
theorem ev_down_client (n : Int) (bs : List UInt8) (ra : Option Addr) (rl rc : Nat) {i : Nat} {x : EndM} (h : PortAt w base b l p) (hx : p.ends[i]? = some x) (hc : i < p.clients) :
    Calls Try.prog 17 #[.pointer (some ⟨b, 0, none⟩), evV 7 i n bs ra rl rc] w (EvPost w base b l 0 2 p) := by
  unfold evV
  have hX := blk_new' w 34 #[.int .i64 7, .int .i64 i, .int .i64 n, .string (strB bs), .slice ra rl rc]
  have k1 : Upd [] w (w.alloc (.cells #[.int .i64 7, .int .i64 i, .int .i64 n, .string (strB bs), .slice ra rl rc] 34)) := (Upd.refl _ _).alloc _
  have h1 := h.upd k1 (by simp)
  have his := pt_is h1
  obtain ⟨g, off, cap, hv, hg, _⟩ := h1.cells hx
  obtain ⟨c0, c1, c2, c3, c4, c5, hfz⟩ := h1.cellsAt hx hv
  have hs := pt_stream_at h1 hx hv
  have hil := (List.getElem?_eq_some_iff.1 hx).1
  have hfx := h.fine x (List.mem_of_getElem? hx)
  have x0 := hX.cell (i := 0) rfl
  have x1 := hX.cell (i := 1) rfl
  have x2 := hX.cell (i := 2) rfl
  have x3 := hX.cell (i := 3) rfl
  have b0 := h1.blk.cell (i := 0) rfl
  have hcl : decide (i < p.clients) = true := decide_eq_true hc
  clear hfz
  go_enter Try.func17, Try.ntmps17
  go_wp2_with (first | (go_at_call 55; refine his.mono ?_; rintro e w' ⟨rfl, rfl⟩) | (go_at_call 57; refine hs.mono ?_; rintro e w' ⟨rfl, rfl⟩))
  go_quiet (fail)
  go_wp2_with fail
  go_ret2
  exact ⟨rfl, h1.drewN _, (k1.mono (by simp)).drewN _⟩


set_option maxHeartbeats 1000000 in
set_option maxRecDepth 100000 in
theorem ev_down_st (n : Int) (bs : List UInt8) (ra : Option Addr) (rl rc : Nat) {i : Nat} {x : EndM} (h : PortAt w base b l p) (hx : p.ends[i]? = some x) (hc : ¬ i < p.clients) (hst : x.st ≠ 2) :
    Calls Try.prog 17 #[.pointer (some ⟨b, 0, none⟩), evV 7 i n bs ra rl rc] w (EvPost w base b l 0 150 p) := by
  unfold evV
  have hX := blk_new' w 34 #[.int .i64 7, .int .i64 i, .int .i64 n, .string (strB bs), .slice ra rl rc]
  have k1 : Upd [] w (w.alloc (.cells #[.int .i64 7, .int .i64 i, .int .i64 n, .string (strB bs), .slice ra rl rc] 34)) := (Upd.refl _ _).alloc _
  have h1 := h.upd k1 (by simp)
  have his := pt_is h1
  obtain ⟨g, off, cap, hv, hg, _⟩ := h1.cells hx
  obtain ⟨c0, c1, c2, c3, c4, c5, hfz⟩ := h1.cellsAt hx hv
  have hs := pt_stream_at h1 hx hv
  have hil := (List.getElem?_eq_some_iff.1 hx).1
  have hfx := h.fine x (List.mem_of_getElem? hx)
  have x0 := hX.cell (i := 0) rfl
  have x1 := hX.cell (i := 1) rfl
  have x2 := hX.cell (i := 2) rfl
  have x3 := hX.cell (i := 3) rfl
  have b0 := h1.blk.cell (i := 0) rfl
  have hcl : decide (i < p.clients) = false := decide_eq_false hc
  have hst' : ¬ (x.st : Int) = 2 := by omega
  clear hfz
  go_enter Try.func17, Try.ntmps17
  go_wp2_with (first | (go_at_call 55; refine his.mono ?_; rintro e w' ⟨rfl, rfl⟩) | (go_at_call 57; refine hs.mono ?_; rintro e w' ⟨rfl, rfl⟩))
  go_quiet (fail)
  go_wp2_with fail
  go_ret2
  exact ⟨rfl, h1.drewN _, (k1.mono (by simp)).drewN _⟩


set_option maxHeartbeats 1000000 in
set_option maxRecDepth 100000 in
theorem ev_down_ok (n : Int) (bs : List UInt8) (ra : Option Addr) (rl rc : Nat) {i : Nat} {x : EndM} (h : PortAt w base b l p) (hx : p.ends[i]? = some x) (hc : ¬ i < p.clients) (hst : x.st = 2) :
    Calls Try.prog 17 #[.pointer (some ⟨b, 0, none⟩), evV 7 i n bs ra rl rc] w (EvPost w base b l 0 0 (p.setEnd i (EndM.reset 3))) := by
  unfold evV
  have hX := blk_new' w 34 #[.int .i64 7, .int .i64 i, .int .i64 n, .string (strB bs), .slice ra rl rc]
  have k1 : Upd [] w (w.alloc (.cells #[.int .i64 7, .int .i64 i, .int .i64 n, .string (strB bs), .slice ra rl rc] 34)) := (Upd.refl _ _).alloc _
  have h1 := h.upd k1 (by simp)
  have his := pt_is h1
  obtain ⟨g, off, cap, hv, hg, _⟩ := h1.cells hx
  obtain ⟨c0, c1, c2, c3, c4, c5, hfz⟩ := h1.cellsAt hx hv
  have hs := pt_stream_at h1 hx hv
  have hil := (List.getElem?_eq_some_iff.1 hx).1
  have hfx := h.fine x (List.mem_of_getElem? hx)
  have x0 := hX.cell (i := 0) rfl
  have x1 := hX.cell (i := 1) rfl
  have x2 := hX.cell (i := 2) rfl
  have x3 := hX.cell (i := 3) rfl
  have b0 := h1.blk.cell (i := 0) rfl
  have hcl : decide (i < p.clients) = false := decide_eq_false hc
  rw [hst] at c1
  clear hfz
  go_enter Try.func17, Try.ntmps17
  go_wp2_with (first | (go_at_call 55; refine his.mono ?_; rintro e w' ⟨rfl, rfl⟩) | (go_at_call 57; refine hs.mono ?_; rintro e w' ⟨rfl, rfl⟩))
  go_quiet (fail)
  go_wp2_with fail
  refine (pt_again 3 (by decide) (h1.drewN _) hx hv).mono ?_
  rintro e w3 ⟨rfl, hp⟩
  go_wp2_with fail
  go_ret2
  exact ⟨rfl, hp.1, ((k1.mono (by simp)).drewN _).trans_same hp.2⟩


end

end Go.Proofs.Ytnbhgfnjnccakaa
