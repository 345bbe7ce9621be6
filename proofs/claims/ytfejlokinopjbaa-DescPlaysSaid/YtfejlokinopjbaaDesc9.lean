/- The walk of the table's call Age. -/
import Derived.Test.YtfejlokinopjbaaDesc7
namespace Go.Proofs.Ytfejlokinopjbaa
open Go Go.RowKit
set_option linter.unusedVariables false

def TabM.ageE (t : TabM) (ix gen : Int) : Nat :=
  if ix < 0 then 5 else match t[ix.toNat]? with
    | none => 5
    | some x => if x.st ≠ 0 then 5 else if gen < x.gen ∨ 1048576 < gen then 2 else 0
def TabM.aged (t : TabM) (ix gen : Int) : TabM :=
  if t.ageE ix gen = 0 then match t[ix.toNat]? with
    | some x => t.set ix.toNat { x with gen := gen.toNat }
    | none => t
  else t

set_option maxHeartbeats 1000000 in
set_option maxRecDepth 100000 in
theorem tab_age {w : World} {base b : Nat} {v : Value} {t : TabM} (ix gen : Int) (h : TabAt w base b v t) :
    Calls Try.prog 10 #[.pointer (some ⟨b, 0, none⟩), .int .i64 ix, .int .i64 gen] w fun e w' =>
      e = .returned (.int .i64 (t.ageE ix gen : Nat)) ∧ TabPost w base b v (t.aged ix gen) w' := by
  have his := tab_is h
  have b0 := h.blk.cell (i := 0) rfl
  have hsm := h.small
  obtain ⟨ao, co, rfl⟩ := h.shape
  have same : ∀ n, t.ageE ix gen = n → n ≠ 0 → TabPost w base b (.slice ao t.length co) (t.aged ix gen) w := fun n h1 h2 => by
    have : t.aged ix gen = t := by unfold TabM.aged; rw [if_neg (by rw [h1]; exact h2)]
    rw [this]
    exact ⟨h, Upd.refl _ _⟩
  by_cases hneg : ix < 0
  · have hl : t.ageE ix gen = 5 := by unfold TabM.ageE; rw [if_pos hneg]
    have hs := same 5 hl (by decide)
    rw [hl]
    go_enter Try.func10, Try.ntmps10
    go_wp2_with (go_at_call 22; refine his.mono ?_; rintro e w' ⟨rfl, rfl⟩)
    go_ret
    exact ⟨rfl, hs⟩
  · obtain ⟨i, rfl⟩ := Int.eq_ofNat_of_zero_le (show 0 ≤ ix by omega)
    by_cases hi : i < t.length
    · obtain ⟨x, hx⟩ : ∃ x, t[i]? = some x := ⟨t[i], List.getElem?_eq_getElem hi⟩
      obtain ⟨g, off, cap, hv, e0, e1, e2, e3, e4, hfz⟩ := h.cells hx
      cases hv
      obtain ⟨hx1, hx2, hx3, hx4⟩ := h.fine x (List.mem_of_getElem? hx)
      have eadd : (⟨g, off, none⟩ : Addr).add (i * 5) = ⟨g, off + i * 5, none⟩ := addr_add _ _ _
      have hl : t.ageE i gen = if x.st ≠ 0 then 5 else if gen < x.gen ∨ 1048576 < gen then 2 else 0 := by
        unfold TabM.ageE; rw [if_neg hneg, Int.toNat_natCast, hx]
      by_cases hst : x.st = 0
      · rw [hst] at e2
        by_cases g1 : gen < x.gen
        · have hl : t.ageE i gen = 2 := by rw [hl, if_neg (by omega), if_pos (Or.inl g1)]
          have hs := same 2 hl (by decide)
          rw [hl]
          go_enter Try.func10, Try.ntmps10
          go_wp2_with (go_at_call 22; refine his.mono ?_; rintro e w' ⟨rfl, rfl⟩)
          go_ret
          exact ⟨rfl, hs⟩
        · by_cases g2 : 1048576 < gen
          · have hl : t.ageE i gen = 2 := by rw [hl, if_neg (by omega), if_pos (Or.inr g2)]
            have hs := same 2 hl (by decide)
            rw [hl]
            go_enter Try.func10, Try.ntmps10
            go_wp2_with (go_at_call 22; refine his.mono ?_; rintro e w' ⟨rfl, rfl⟩)
            go_ret
            exact ⟨rfl, hs⟩
          · obtain ⟨m, rfl⟩ := Int.eq_ofNat_of_zero_le (show 0 ≤ gen by omega)
            have hl : t.ageE i m = 0 := by rw [hl, if_neg (by omega), if_neg (by omega)]
            have ha : t.aged i m = t.set i { x with gen := m } := by unfold TabM.aged; rw [if_pos hl, Int.toNat_natCast, hx, Int.toNat_natCast]
            have hus := used_set (x' := { x with gen := m }) hx
            obtain ⟨xs, hR, hL⟩ := h.raw
            obtain ⟨hil, q0, q1, q2, q3, q4⟩ := hL.at hx
            have f1 := hR.frozen (off + i * 5 + 1)
            have hR2 := hR.ent (i := i) (j := 1) (by omega) (.int .i64 m)
            have Hus := Lib.hid hus
            clear hus same
            rw [hl, ha]
            go_enter Try.func10, Try.ntmps10
            go_wp2_with (go_at_call 22; refine his.mono ?_; rintro e w' ⟨rfl, rfl⟩)
            go_ret
            refine ⟨rfl, hR2.tab (t := t.set i { x with gen := m }) ?_ (by rw [List.length_set]) (by rw [Hus.out]; simp) h.base (by rw [List.length_set]; exact hsm) ?_, (Upd.refl _ _).setCell (a := ⟨g, off + i * 5 + 1, none⟩) (Or.inl (by simp [Value.ownBlock])) _⟩
            · refine hL.of5 (by simp) (fun p hp => ?_) ?_ ?_ ?_ ?_ ?_
              · rw [List.getElem?_set_ne (by omega)]
              · rw [List.getElem?_set_ne (by omega)]; exact q0
              · rw [List.getElem?_set_self (by omega)]
              · rw [List.getElem?_set_ne (by omega)]; exact q2
              · rw [List.getElem?_set_ne (by omega)]; exact q3
              · rw [List.getElem?_set_ne (by omega)]; exact q4
            · intro e he
              rcases List.mem_or_eq_of_mem_set he with h' | h'
              · exact h.fine e h'
              · subst h'
                exact ⟨by show 1 ≤ m; omega, by show m ≤ 1048577; omega, hx3, Or.inl (by show m ≤ 1048576; omega)⟩
      · have hst' : ¬ (x.st : Int) = 0 := by omega
        have hl : t.ageE i gen = 5 := by rw [hl, if_pos hst]
        have hs := same 5 hl (by decide)
        rw [hl]
        rcases (show x.st = 1 ∨ x.st = 2 by omega) with h0 | h0 <;> rw [h0] at e2
        all_goals
          clear hst hst' h0 hx3 hx4
          go_enter Try.func10, Try.ntmps10
          go_wp2_with (go_at_call 22; refine his.mono ?_; rintro e w' ⟨rfl, rfl⟩)
          go_ret
          exact ⟨rfl, hs⟩
    · have hl : t.ageE i gen = 5 := by unfold TabM.ageE; rw [if_neg hneg, Int.toNat_natCast, List.getElem?_eq_none (by omega)]
      have hs := same 5 hl (by decide)
      rw [hl]
      go_enter Try.func10, Try.ntmps10
      go_wp2_with (go_at_call 22; refine his.mono ?_; rintro e w' ⟨rfl, rfl⟩)
      go_ret
      exact ⟨rfl, hs⟩

end Go.Proofs.Ytfejlokinopjbaa
