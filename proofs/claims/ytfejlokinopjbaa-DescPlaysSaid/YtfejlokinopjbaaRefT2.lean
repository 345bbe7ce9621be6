/- The walks of the document's table: look. -/
import Derived.Test.YtfejlokinopjbaaRefT1
namespace Go.Proofs.Ytfejlokinopjbaa
open Go Go.RowKit
set_option linter.unusedVariables false

set_option maxHeartbeats 1000000 in
set_option maxRecDepth 100000 in
theorem rt_look {w : World} {base c : Nat} {v : Value} {t : TabM} (ix gen : Int) (h : RTab w base c v t) :
    Calls Try.prog 29 #[.pointer (some ⟨c, 0, none⟩), .agg #[.int .i64 ix, .int .i64 gen]] w fun e w' => e = .returned (.int .i64 (t.look ix gen : Nat)) ∧ Upd [] w w' := by
  have hU : Upd [] w (w.alloc (.cells #[.int .i64 ix, .int .i64 gen] 30)) := (Upd.refl _ _).alloc _
  have h1 := h.upd hU (by simp) (by simp)
  have hB := blk_new' w 30 #[.int .i64 ix, .int .i64 gen]
  have k0 := hB.cell (i := 0) rfl
  have k1 := hB.cell (i := 1) rfl
  have hsm := h.small
  have b0 := h1.blk.cell (i := 0) rfl
  obtain ⟨ao, co, rfl⟩ := h1.shape
  by_cases hneg : ix < 0
  · have hl : t.look ix gen = 5 := by unfold TabM.look; rw [if_pos hneg]
    have hd : decide (ix < 0) = true := decide_eq_true hneg
    go_enter Try.func29, Try.ntmps29
    go_wp2_with fail
    go_quiet (fail)
    go_wp2_with fail
    go_ret
    exact ⟨by rw [hl]; rfl, hU.drewN _⟩
  · obtain ⟨i, rfl⟩ := Int.eq_ofNat_of_zero_le (show 0 ≤ ix by omega)
    have hd : decide ((i : Int) < 0) = false := decide_eq_false hneg
    by_cases hi : i < t.length
    · obtain ⟨x, hx⟩ : ∃ x, t[i]? = some x := ⟨t[i], List.getElem?_eq_getElem hi⟩
      obtain ⟨g, off, cap, hv, e0, e1, e2, e3, e4, hfz⟩ := h1.cells hx
      cases hv
      obtain ⟨hx1, hx2, hx3, hx4⟩ := h1.fine x (List.mem_of_getElem? hx)
      have hl : t.look i gen = if 1 ≤ gen ∧ gen < x.gen then 30 else if gen = x.gen ∧ x.st = 1 then 0 else 5 := by
        unfold TabM.look; rw [if_neg hneg, Int.toNat_natCast, hx]
      have eadd : (⟨g, off, none⟩ : Addr).add (i * 5) = ⟨g, off + i * 5, none⟩ := addr_add _ _ _
      have hig : decide (t.length ≤ i) = false := decide_eq_false (by omega)
      clear e3 e4 e1 hneg
      by_cases g1 : gen < 1
      · have hd1 : decide (gen < (1 : Int)) = true := decide_eq_true g1
        have hl' : t.look i gen = 5 := by rw [hl, if_neg (by omega), if_neg (by omega)]
        clear hl
        go_enter Try.func29, Try.ntmps29
        go_wp2_with fail
        go_quiet (fail)
        go_wp2_with fail
        go_ret
        exact ⟨by rw [hl']; rfl, hU.drewN _⟩
      · have hd1 : decide (gen < (1 : Int)) = false := decide_eq_false g1
        by_cases g2 : (x.gen : Int) < gen
        · have hd2 : decide ((x.gen : Int) < gen) = true := decide_eq_true g2
          have hl' : t.look i gen = 5 := by rw [hl, if_neg (by omega), if_neg (by omega)]
          clear hl
          go_enter Try.func29, Try.ntmps29
          go_wp2_with fail
          go_quiet (fail)
          go_wp2_with fail
          go_ret
          exact ⟨by rw [hl']; rfl, hU.drewN _⟩
        · have hd2 : decide ((x.gen : Int) < gen) = false := decide_eq_false g2
          by_cases g3 : gen < (x.gen : Int)
          · have hl' : t.look i gen = 30 := by rw [hl, if_pos (by omega)]
            clear hl
            go_enter Try.func29, Try.ntmps29
            go_wp2_with fail
            go_quiet (fail)
            go_wp2_with fail
            go_quiet (fail)
            go_wp2_with fail
            go_ret
            exact ⟨by rw [hl']; rfl, (hU.drewN _).drewN _⟩
          · obtain rfl : gen = x.gen := by omega
            rcases Bool.eq_false_or_eq_true (x.st == 1) with hs | hs
            · have hl' : t.look i x.gen = 0 := by rw [hl, if_neg (by omega), if_pos ⟨rfl, by simpa using hs⟩]
              rw [hs] at e0
              clear hl
              go_enter Try.func29, Try.ntmps29
              go_wp2_with fail
              go_quiet (fail)
              go_wp2_with fail
              go_quiet (fail)
              go_wp2_with fail
              go_quiet (fail)
              go_wp2_with fail
              go_ret
              exact ⟨by rw [hl']; rfl, ((hU.drewN _).drewN _).drewN _⟩
            · have hl' : t.look i x.gen = 5 := by rw [hl, if_neg (by omega), if_neg (by simpa using hs)]
              rw [hs] at e0
              clear hl
              go_enter Try.func29, Try.ntmps29
              go_wp2_with fail
              go_quiet (fail)
              go_wp2_with fail
              go_quiet (fail)
              go_wp2_with fail
              go_quiet (fail)
              go_wp2_with fail
              go_ret
              exact ⟨by rw [hl']; rfl, ((hU.drewN _).drewN _).drewN _⟩
    · have hl : t.look i gen = 5 := by unfold TabM.look; rw [if_neg hneg, Int.toNat_natCast, List.getElem?_eq_none (by omega)]
      have hig : decide (t.length ≤ i) = true := decide_eq_true (by omega)
      go_enter Try.func29, Try.ntmps29
      go_wp2_with fail
      go_quiet (fail)
      go_wp2_with fail
      go_ret
      exact ⟨by rw [hl]; rfl, hU.drewN _⟩

end Go.Proofs.Ytfejlokinopjbaa
