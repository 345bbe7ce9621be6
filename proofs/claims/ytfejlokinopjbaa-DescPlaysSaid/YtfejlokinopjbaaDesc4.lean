/- The walks of the table's calls Set, Close, Age. -/
import Derived.Test.YtfejlokinopjbaaDesc3
namespace Go.Proofs.Ytfejlokinopjbaa
open Go Go.RowKit
set_option linter.unusedVariables false

/-- What a call that turns a table leaves. -/
def TabPost (w : World) (base b : Nat) (v : Value) (t' : TabM) (w' : World) : Prop := TabAt w' base b v t' ∧ Upd (b :: v.ownBlock.toList) w w'

set_option maxHeartbeats 1000000 in
set_option maxRecDepth 100000 in
theorem tab_set {w : World} {base b : Nat} {v : Value} {t : TabM} (ix gen kind num : Int) (h : TabAt w base b v t) :
    Calls Try.prog 16 #[.pointer (some ⟨b, 0, none⟩), .agg #[.int .i64 ix, .int .i64 gen], .int .i64 kind, .int .i64 num] w fun e w' =>
      e = .returned (.int .i64 (t.look ix gen : Nat)) ∧ TabPost w base b v (t.turn ix gen fun x => { x with kind := kind, num := num }) w' := by
  have hU : Upd [] w (w.alloc (.cells #[.int .i64 ix, .int .i64 gen] 30)) := (Upd.refl _ _).alloc _
  have h1 := h.upd hU (by simp) (by simp)
  have hf := tab_find ix gen h1
  go_enter Try.func16, Try.ntmps16
  go_wp2_with fail
  refine hf.mono ?_
  rintro e w2 ⟨hU2, ⟨hl, rfl⟩ | ⟨i, x, g, off, cap, hl, rfl, hx, hst, rfl, rfl, rfl⟩⟩
  · have hgot : t.turn ix gen (fun x => { x with kind := kind, num := num }) = t := by unfold TabM.turn; rw [if_neg hl]
    have hl0 : ¬ ((t.look ix gen : Nat) : Int) = 0 := by omega
    go_wp2_with fail
    go_ret
    refine ⟨rfl, ?_⟩
    rw [hgot]
    exact ⟨h1.upd hU2 (by simp) (by simp), (hU.trans_same hU2).mono (by simp)⟩
  · have hgot : t.turn i x.gen (fun x => { x with kind := kind, num := num }) = t.set i { x with kind := kind, num := num } := by unfold TabM.turn; rw [if_pos hl, Int.toNat_natCast, hx]
    have h2 := h1.upd hU2 (by simp) (by simp)
    obtain ⟨xs, hR, hL⟩ := h2.raw
    obtain ⟨hil, q0, q1, q2, q3, q4⟩ := hL.at hx
    have f3 := hR.frozen (off + i * 5 + 3)
    have f4 := hR.frozen (off + i * 5 + 4)
    have c3 := hR.cell q3
    have c4 := hR.cell q4
    go_wp2_with fail
    go_ret
    refine ⟨by rw [hl]; rfl, ?_⟩
    rw [hgot]
    have hR3 := (hR.ent (i := i) (j := 3) (by omega) (.int .i64 kind)).ent (i := i) (j := 4) (by rw [List.length_set]; omega) (.int .i64 num)
    have hus := used_set (x' := { x with kind := kind, num := num }) hx
    refine ⟨hR3.tab ?_ (by simp) ?_ h.base (by simp; exact h.small) ?_, ?_⟩
    · refine hL.of5 (by simp) (fun p hp => ?_) ?_ ?_ ?_ ?_ ?_
      · rw [List.getElem?_set_ne (by omega), List.getElem?_set_ne (by omega)]
      · rw [List.getElem?_set_ne (by omega), List.getElem?_set_ne (by omega)]; exact q0
      · rw [List.getElem?_set_ne (by omega), List.getElem?_set_ne (by omega)]; exact q1
      · rw [List.getElem?_set_ne (by omega), List.getElem?_set_ne (by omega)]; exact q2
      · rw [List.getElem?_set_ne (by omega), List.getElem?_set_self (by omega)]
      · rw [List.getElem?_set_self (by rw [List.length_set]; omega)]
    · rw [hus, hst]; simp
    · intro e he
      rcases List.mem_or_eq_of_mem_set he with h' | h'
      · exact h.fine e h'
      · subst h'; exact h.fine x (List.mem_of_getElem? hx)
    · exact (((hU.trans_same hU2).mono (by simp)).setCell (a := ⟨g, off + i * 5 + 3, none⟩) (Or.inl (by simp [Value.ownBlock])) _).setCell (a := ⟨g, off + i * 5 + 4, none⟩) (Or.inl (by simp [Value.ownBlock])) _

set_option maxHeartbeats 1000000 in
set_option maxRecDepth 100000 in
theorem tab_close {w : World} {base b : Nat} {v : Value} {t : TabM} (ix gen : Int) (h : TabAt w base b v t) :
    Calls Try.prog 12 #[.pointer (some ⟨b, 0, none⟩), .agg #[.int .i64 ix, .int .i64 gen]] w fun e w' =>
      e = .returned (.int .i64 (t.look ix gen : Nat)) ∧ TabPost w base b v (t.turn ix gen EntM.closed) w' := by
  have hU : Upd [] w (w.alloc (.cells #[.int .i64 ix, .int .i64 gen] 30)) := (Upd.refl _ _).alloc _
  have h1 := h.upd hU (by simp) (by simp)
  have hf := tab_find ix gen h1
  go_enter Try.func12, Try.ntmps12
  go_wp2_with fail
  refine hf.mono ?_
  rintro e w2 ⟨hU2, ⟨hl, rfl⟩ | ⟨i, x, g, off, cap, hl, rfl, hx, hst, rfl, rfl, rfl⟩⟩
  · have hgot : t.turn ix gen EntM.closed = t := by unfold TabM.turn; rw [if_neg hl]
    have hl0 : ¬ ((t.look ix gen : Nat) : Int) = 0 := by omega
    go_wp2_with fail
    go_ret
    refine ⟨rfl, ?_⟩
    rw [hgot]
    exact ⟨h1.upd hU2 (by simp) (by simp), (hU.trans_same hU2).mono (by simp)⟩
  · have hgot : t.turn i x.gen EntM.closed = t.set i x.closed := by unfold TabM.turn; rw [if_pos hl, Int.toNat_natCast, hx]
    have h2 := h1.upd hU2 (by simp) (by simp)
    obtain ⟨hx1, hx2, hx3, hx4⟩ := h.fine x (List.mem_of_getElem? hx)
    have hus := used_set (x' := x.closed) hx
    have hupd : Upd (b :: (Value.slice (some ⟨g, off, none⟩) t.length cap).ownBlock.toList) w w2 := (hU.trans_same hU2).mono (by simp)
    have hcl : t.used ≤ t.length := List.countP_le_length
    have hsm := h.small
    obtain ⟨xs, hR, hL⟩ := h2.raw
    obtain ⟨hil, q0, q1, q2, q3, q4⟩ := hL.at hx
    have wg : IntKind.i64.wrap ((x.gen : Int) + 1) = ((x.gen + 1 : Nat) : Int) := by rw [IntWalk.i64_in _ (by omega)]; omega
    have hcg : x.closed.gen = x.gen + 1 := rfl
    have hcs : x.closed.st = if 1048576 < x.gen + 1 then 2 else 0 := rfl
    have hg1 : 1 ≤ x.gen + 1 ∧ x.gen + 1 ≤ 1048577 := by
      rcases hx4 with h' | h'
      · omega
      · omega
    generalize x.gen + 1 = y at *
    have wu : IntKind.i64.wrap ((t.used : Int) - 1) = (t.used : Int) - 1 := IntWalk.i64_in _ (by omega)
    have f1 := hR.frozen (off + i * 5 + 1)
    have f2 := hR.frozen (off + i * 5 + 2)
    have f3 := hR.frozen (off + i * 5 + 3)
    have f4 := hR.frozen (off + i * 5 + 4)
    have c1 := hR.cell q1
    have c2 := hR.cell q2
    have c3 := hR.cell q3
    have c4 := hR.cell q4
    have fb := hR.blk.frozen 1
    have cb := hR.blk.cell (i := 1) rfl
    have hgb := hR.ap
    have hgb' : b ≠ g := fun e => hgb e.symm
    have Hg1 := Lib.hid hg1
    have Hcs := Lib.hid hcs
    have Hsm := Lib.hid hsm
    have Hcl := Lib.hid hcl
    have Hus := Lib.hid hus
    clear hg1 hcs hx1 hx2 hx3 hx4 hsm hcl hus
    by_cases hbig : (1048576 : Int) < (y : Int)
    · have hst' : x.closed.st = 2 := by rw [Hcs.out]; exact if_pos (by omega)
      have hus : (TabM.used (t.set i x.closed) : Int) = t.used - 1 := by rw [Hus.out, hst, hst']; simp
      have hR6 := (((((hR.cnt ((t.used : Int) - 1)).ent (i := i) (j := 1) (by omega) (.int .i64 y)).ent (i := i) (j := 3) (by simp only [List.length_set]; omega) (.int .i64 0)).ent (i := i) (j := 4) (by simp only [List.length_set]; omega) (.int .i64 0)).ent (i := i) (j := 2) (by simp only [List.length_set]; omega) (.int .i64 0)).ent (i := i) (j := 2) (by simp only [List.length_set]; omega) (.int .i64 2)
      go_wp2_with fail
      go_ret
      refine ⟨by rw [hl]; rfl, ?_⟩
      rw [hgot]
      refine ⟨hR6.tab (t := t.set i x.closed) ?_ (by rw [List.length_set]) hus.symm h.base (by rw [List.length_set]; exact h.small) ?_, (((((hupd.setCell (a := ⟨b, 1, none⟩) (Or.inl (by simp)) _).setCell (a := ⟨g, off + i * 5 + 1, none⟩) (Or.inl (by simp [Value.ownBlock])) _).setCell (a := ⟨g, off + i * 5 + 3, none⟩) (Or.inl (by simp [Value.ownBlock])) _).setCell (a := ⟨g, off + i * 5 + 4, none⟩) (Or.inl (by simp [Value.ownBlock])) _).setCell (a := ⟨g, off + i * 5 + 2, none⟩) (Or.inl (by simp [Value.ownBlock])) _).setCell (a := ⟨g, off + i * 5 + 2, none⟩) (Or.inl (by simp [Value.ownBlock])) _⟩
      · refine hL.of5 (by simp) (fun p hp => ?_) ?_ ?_ ?_ ?_ ?_
        · repeat rw [List.getElem?_set_ne (by omega)]
        · repeat rw [List.getElem?_set_ne (by omega)]
          exact q0
        · repeat rw [List.getElem?_set_ne (by omega)]
          rw [List.getElem?_set_self (by first | omega | (simp only [List.length_set]; omega)), hcg]
        · rw [List.getElem?_set_self (by first | omega | (simp only [List.length_set]; omega)), hst']; rfl
        · repeat rw [List.getElem?_set_ne (by omega)]
          rw [List.getElem?_set_self (by first | omega | (simp only [List.length_set]; omega))]; rfl
        · repeat rw [List.getElem?_set_ne (by omega)]
          rw [List.getElem?_set_self (by first | omega | (simp only [List.length_set]; omega))]; rfl
      · intro e he
        rcases List.mem_or_eq_of_mem_set he with h' | h'
        · exact h.fine e h'
        · subst h'
          have := Hg1.out
          refine ⟨by rw [hcg]; omega, by rw [hcg]; omega, by rw [hst']; simp, ?_⟩
          exact Or.inr hst'
    · have hst' : x.closed.st = 0 := by rw [Hcs.out]; exact if_neg (by omega)
      have hus : (TabM.used (t.set i x.closed) : Int) = t.used - 1 := by rw [Hus.out, hst, hst']; simp
      have hR6 := ((((hR.cnt ((t.used : Int) - 1)).ent (i := i) (j := 1) (by omega) (.int .i64 y)).ent (i := i) (j := 3) (by simp only [List.length_set]; omega) (.int .i64 0)).ent (i := i) (j := 4) (by simp only [List.length_set]; omega) (.int .i64 0)).ent (i := i) (j := 2) (by simp only [List.length_set]; omega) (.int .i64 0)
      go_wp2_with fail
      go_ret
      refine ⟨by rw [hl]; rfl, ?_⟩
      rw [hgot]
      refine ⟨hR6.tab (t := t.set i x.closed) ?_ (by rw [List.length_set]) hus.symm h.base (by rw [List.length_set]; exact h.small) ?_, ((((hupd.setCell (a := ⟨b, 1, none⟩) (Or.inl (by simp)) _).setCell (a := ⟨g, off + i * 5 + 1, none⟩) (Or.inl (by simp [Value.ownBlock])) _).setCell (a := ⟨g, off + i * 5 + 3, none⟩) (Or.inl (by simp [Value.ownBlock])) _).setCell (a := ⟨g, off + i * 5 + 4, none⟩) (Or.inl (by simp [Value.ownBlock])) _).setCell (a := ⟨g, off + i * 5 + 2, none⟩) (Or.inl (by simp [Value.ownBlock])) _⟩
      · refine hL.of5 (by simp) (fun p hp => ?_) ?_ ?_ ?_ ?_ ?_
        · repeat rw [List.getElem?_set_ne (by omega)]
        · repeat rw [List.getElem?_set_ne (by omega)]
          exact q0
        · repeat rw [List.getElem?_set_ne (by omega)]
          rw [List.getElem?_set_self (by first | omega | (simp only [List.length_set]; omega)), hcg]
        · rw [List.getElem?_set_self (by first | omega | (simp only [List.length_set]; omega)), hst']; rfl
        · repeat rw [List.getElem?_set_ne (by omega)]
          rw [List.getElem?_set_self (by first | omega | (simp only [List.length_set]; omega))]; rfl
        · repeat rw [List.getElem?_set_ne (by omega)]
          rw [List.getElem?_set_self (by first | omega | (simp only [List.length_set]; omega))]; rfl
      · intro e he
        rcases List.mem_or_eq_of_mem_set he with h' | h'
        · exact h.fine e h'
        · subst h'
          have := Hg1.out
          refine ⟨by rw [hcg]; omega, by rw [hcg]; omega, by rw [hst']; simp, ?_⟩
          left; rw [hcg]; omega

end Go.Proofs.Ytfejlokinopjbaa
