/- The walks of the table's calls find, Lookup, Set, Close. -/
import Derived.Test.YtfejlokinopjbaaDesc1
namespace Go.Proofs.Ytfejlokinopjbaa
open Go Go.RowKit
set_option linter.unusedVariables false

def FindPost (w : World) (v : Value) (t : TabM) (ix gen : Int) (e : Ending) (w' : World) : Prop :=
  Upd [] w w' ∧ ((t.look ix gen ≠ 0 ∧ e = .returned (.tuple #[.pointer none, .int .i64 (t.look ix gen : Nat)])) ∨
    ∃ (i : Nat) (x : EntM) (g off cap : Nat), t.look ix gen = 0 ∧ ix = i ∧ t[i]? = some x ∧ x.st = 1 ∧ gen = x.gen ∧ v = .slice (some ⟨g, off, none⟩) t.length cap ∧ e = .returned (.tuple #[.pointer (some ⟨g, off + i * 5, none⟩), .int .i64 0]))

theorem tab_is {w : World} {base b : Nat} {v : Value} {t : TabM} (h : TabAt w base b v t) : Calls Try.prog 22 #[.pointer (some ⟨b, 0, none⟩)] w fun e w' => e = .returned (.bool true) ∧ w = w' :=
  is_any b true w (h.blk.cell (i := 2) rfl)

set_option maxHeartbeats 1000000 in
set_option maxRecDepth 100000 in
theorem tab_find {w : World} {base b : Nat} {v : Value} {t : TabM} (ix gen : Int) (h : TabAt w base b v t) :
    Calls Try.prog 23 #[.pointer (some ⟨b, 0, none⟩), .agg #[.int .i64 ix, .int .i64 gen]] w (FindPost w v t ix gen) := by
  have hU : Upd [] w (w.alloc (.cells #[.int .i64 ix, .int .i64 gen] 30)) := (Upd.refl _ _).alloc _
  have h1 := h.upd hU (by simp) (by simp)
  have hB := blk_new' w 30 #[.int .i64 ix, .int .i64 gen]
  have k0 := hB.cell (i := 0) rfl
  have k1 := hB.cell (i := 1) rfl
  have hsm := h.small
  have his := tab_is h1
  have b0 := h1.blk.cell (i := 0) rfl
  obtain ⟨ao, co, rfl⟩ := h1.shape
  by_cases hneg : ix < 0
  · have hl : t.look ix gen = 5 := by unfold TabM.look; rw [if_pos hneg]
    go_enter Try.func23, Try.ntmps23
    go_wp2_with (go_at_call 22; refine his.mono ?_; rintro e w' ⟨rfl, rfl⟩)
    go_quiet (fail)
    go_wp2_with fail
    go_ret2
    exact ⟨hU.drewN _, Or.inl ⟨by rw [hl]; decide, by rw [hl]; rfl⟩⟩
  · obtain ⟨i, rfl⟩ := Int.eq_ofNat_of_zero_le (show 0 ≤ ix by omega)
    by_cases hi : i < t.length
    · obtain ⟨x, hx⟩ : ∃ x, t[i]? = some x := ⟨t[i], List.getElem?_eq_getElem hi⟩
      obtain ⟨g, off, cap, hv, e0, e1, e2, e3, e4, hfz⟩ := h1.cells hx
      cases hv
      have hxf := h1.fine x (List.mem_of_getElem? hx)
      obtain ⟨hx1, hx2, hx3, hx4⟩ := hxf
      have hl : t.look i gen = if 1 ≤ gen ∧ gen < x.gen then 30 else if gen = x.gen ∧ x.st = 1 then 0 else 5 := by
        unfold TabM.look; rw [if_neg hneg, Int.toNat_natCast, hx]
      have eadd : (⟨g, off, none⟩ : Addr).add (i * 5) = ⟨g, off + i * 5, none⟩ := addr_add _ _ _
      have hneg' : ¬ (i : Int) < 0 := hneg
      have hig : ¬ (t.length : Int) ≤ (i : Int) := by omega
      clear e3 e4 hneg
      by_cases g1 : 1 ≤ gen
      · by_cases g2 : gen < x.gen
        · rw [if_pos ⟨g1, g2⟩] at hl
          go_enter Try.func23, Try.ntmps23
          go_wp2_with (go_at_call 22; refine his.mono ?_; rintro e w' ⟨rfl, rfl⟩)
          go_quiet (fail)
          go_wp2_with fail
          go_quiet (fail)
          go_wp2_with fail
          go_quiet (fail)
          go_wp2_with fail
          go_ret2
          exact ⟨((hU.drewN _).drewN _).drewN _, Or.inl ⟨by rw [hl]; decide, by rw [hl]; rfl⟩⟩
        · have hl' : t.look i gen = if gen = x.gen ∧ x.st = 1 then 0 else 5 := by rw [hl, if_neg (fun h => g2 h.2)]
          by_cases g3 : gen = x.gen
          · subst g3
            by_cases g4 : x.st = 1
            · rw [if_pos ⟨rfl, g4⟩] at hl'
              rw [g4] at e2
              clear hl
              go_enter Try.func23, Try.ntmps23
              go_wp2_with (go_at_call 22; refine his.mono ?_; rintro e w' ⟨rfl, rfl⟩)
              go_quiet (fail)
              go_wp2_with fail
              go_quiet (fail)
              go_wp2_with fail
              go_quiet (fail)
              go_wp2_with fail
              go_quiet (fail)
              go_wp2_with fail
              go_ret2
              exact ⟨(((hU.drewN _).drewN _).drewN _).drewN _, Or.inr ⟨i, x, g, off, co, hl', rfl, hx, g4, rfl, rfl, rfl⟩⟩
            · rw [if_neg (fun h => g4 h.2)] at hl'
              have g4' : ¬ (x.st : Int) = 1 := by omega
              clear hl
              go_enter Try.func23, Try.ntmps23
              go_wp2_with (go_at_call 22; refine his.mono ?_; rintro e w' ⟨rfl, rfl⟩)
              go_quiet (fail)
              go_wp2_with fail
              go_quiet (fail)
              go_wp2_with fail
              go_quiet (fail)
              go_wp2_with fail
              go_quiet (fail)
              go_wp2_with fail
              go_ret2
              exact ⟨(((hU.drewN _).drewN _).drewN _).drewN _, Or.inl ⟨by rw [hl']; decide, by rw [hl']; rfl⟩⟩
          · rw [if_neg (fun h => g3 h.1)] at hl'
            clear hl
            go_enter Try.func23, Try.ntmps23
            go_wp2_with (go_at_call 22; refine his.mono ?_; rintro e w' ⟨rfl, rfl⟩)
            go_quiet (fail)
            go_wp2_with fail
            go_quiet (fail)
            go_wp2_with fail
            go_quiet (fail)
            go_wp2_with fail
            go_quiet (fail)
            go_wp2_with fail
            go_ret2
            exact ⟨(((hU.drewN _).drewN _).drewN _).drewN _, Or.inl ⟨by rw [hl']; decide, by rw [hl']; rfl⟩⟩
      · have g3 : ¬ gen = x.gen := by omega
        have hl' : t.look i gen = 5 := by rw [hl, if_neg (fun h => g1 h.1), if_neg (fun h => g3 h.1)]
        have hd : decide ((1 : Int) ≤ gen) = false := decide_eq_false g1
        clear hl
        go_enter Try.func23, Try.ntmps23
        go_wp2_with (go_at_call 22; refine his.mono ?_; rintro e w' ⟨rfl, rfl⟩)
        go_quiet (fail)
        go_wp2_with fail
        go_quiet (fail)
        go_wp2_with fail
        go_quiet (fail)
        go_wp2_with fail
        go_quiet (fail)
        go_wp2_with fail
        go_ret2
        exact ⟨(((hU.drewN _).drewN _).drewN _).drewN _, Or.inl ⟨by rw [hl']; decide, by rw [hl']; rfl⟩⟩
    · have hl : t.look i gen = 5 := by unfold TabM.look; rw [if_neg hneg, Int.toNat_natCast, List.getElem?_eq_none (by omega)]
      go_enter Try.func23, Try.ntmps23
      go_wp2_with (go_at_call 22; refine his.mono ?_; rintro e w' ⟨rfl, rfl⟩)
      go_quiet (fail)
      go_wp2_with fail
      go_ret2
      exact ⟨hU.drewN _, Or.inl ⟨by rw [hl]; decide, by rw [hl]; rfl⟩⟩

end Go.Proofs.Ytfejlokinopjbaa
