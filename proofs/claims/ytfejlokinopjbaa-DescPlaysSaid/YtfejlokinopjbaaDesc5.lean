/- The walks of the table's calls Open, Age, New. -/
import Derived.Test.YtfejlokinopjbaaDesc4
namespace Go.Proofs.Ytfejlokinopjbaa
open Go Go.RowKit
set_option linter.unusedVariables false

/-- What Open answers, and the table behind it. -/
def TabM.openE (t : TabM) : Nat := if t.freeIx < t.length then 0 else 4
def TabM.openH (t : TabM) : Int × Int := match t[t.freeIx]? with
  | some x => (t.freeIx, x.gen)
  | none => (0, 0)
def TabM.openT (t : TabM) (kind num : Int) : TabM := match t[t.freeIx]? with
  | some x => t.set t.freeIx (x.opened kind num)
  | none => t

set_option maxHeartbeats 1000000 in
set_option maxRecDepth 100000 in
theorem tab_open {w : World} {base b : Nat} {v : Value} {t : TabM} (kind num : Int) (h : TabAt w base b v t) :
    Calls Try.prog 11 #[.pointer (some ⟨b, 0, none⟩), .int .i64 kind, .int .i64 num] w fun e w' =>
      e = .returned (.tuple #[.agg #[.int .i64 t.openH.1, .int .i64 t.openH.2], .int .i64 (t.openE : Nat)]) ∧ TabPost w base b v (t.openT kind num) w' := by
  have hU : Upd [] w (w.alloc (.cells #[.int .i64 0, .int .i64 0] 30)) := (Upd.refl _ _).alloc _
  have h1 := h.upd hU (by simp) (by simp)
  have hB := blk_new' w 30 #[.int .i64 0, .int .i64 0]
  have his := tab_is h1
  have b0 := h1.blk.cell (i := 0) rfl
  have hsm := h.small
  obtain ⟨ao, co, rfl⟩ := h1.shape
  go_enter Try.func11, Try.ntmps11
  go_wp2_with (go_at_call 22; refine his.mono ?_; rintro e w' ⟨rfl, rfl⟩)
  have hlw := h.lt
  have hvw := h.vlt
  generalize hr : w.heap.size = rb at *
  generalize w.alloc (.cells #[.int .i64 0, .int .i64 0] 30) = w1 at *
  go_loopw [19] (fun i wr => ∃ k : Nat, k ≤ t.length ∧ i = .int .i64 k ∧ (∀ j x, j < k → t[j]? = some x → x.st ≠ 0) ∧ wr = w1) (fun i _ => t.length - (intOf i).toNat)
  case atStart => exact ⟨0, Nat.zero_le _, rfl, fun j x hj => absurd hj (Nat.not_lt_zero _), rfl⟩
  case round =>
    obtain ⟨k, hk, rfl, hall, rfl⟩ := hrel
    by_cases hlt : k < t.length
    · obtain ⟨x, hx⟩ : ∃ x, t[k]? = some x := ⟨t[k], List.getElem?_eq_getElem hlt⟩
      obtain ⟨g, off, cap, hv, e0, e1, e2, e3, e4, hfz⟩ := h1.cells hx
      cases hv
      have eadd : (⟨g, off, none⟩ : Addr).add (k * 5) = ⟨g, off + k * 5, none⟩ := addr_add _ _ _
      by_cases hst : x.st = 0
      · rw [hst] at e2
        have hfr : t.freeIx = k := by
          unfold TabM.freeIx
          have hk' := (List.getElem?_eq_some_iff.1 hx)
          obtain ⟨hk1, hk2⟩ := hk'
          refine (List.findIdx_eq hk1).2 ⟨by rw [hk2, hst]; rfl, fun j hj => ?_⟩
          have := hall j t[j] hj (List.getElem?_eq_getElem (by omega))
          simpa using this
        have hE : t.openE = 0 := by unfold TabM.openE; rw [hfr, if_pos hlt]
        have hH : t.openH = ((k : Int), (x.gen : Int)) := by unfold TabM.openH; rw [hfr, hx]
        have hT : t.openT kind num = t.set k (x.opened kind num) := by unfold TabM.openT; rw [hfr, hx]
        have hus := used_set (x' := x.opened kind num) hx
        have hxf := h.fine x (List.mem_of_getElem? hx)
        have hcl : t.used ≤ t.length := List.countP_le_length
        obtain ⟨xs, hR, hL⟩ := h1.raw
        obtain ⟨hil, q0, q1, q2, q3, q4⟩ := hL.at hx
        have cb := hR.blk.cell (i := 1) rfl
        have fb := hR.blk.frozen 1
        have wu : IntKind.i64.wrap ((t.used : Int) + 1) = (t.used : Int) + 1 := IntWalk.i64_in _ (by omega)
        have f2 := hR.frozen (off + k * 5 + 2)
        have f3 := hR.frozen (off + k * 5 + 3)
        have f4 := hR.frozen (off + k * 5 + 4)
        have r0 := hB.cell (i := 0) rfl
        have r1 := hB.cell (i := 1) rfl
        have rf0 := hB.frozen 0
        have rf1 := hB.frozen 1
        have hgl := (hvw g rfl).2
        have n1 := hR.ap
        have n2 : b ≠ g := fun e => n1 e.symm
        have n3 : rb ≠ g := by omega
        have n4 : g ≠ rb := by omega
        have n5 : rb ≠ b := by omega
        have n6 : b ≠ rb := by omega
        have Hus := Lib.hid hus
        have Hxf := Lib.hid hxf
        clear hus hxf hall
        go_wp2_with fail
        (try simp only [Exit.inBlock, Exit.then])
        have hR5 := (((hR.ent (i := k) (j := 2) (by omega) (.int .i64 1)).ent (i := k) (j := 3) (by simp only [List.length_set]; omega) (.int .i64 kind)).ent (i := k) (j := 4) (by simp only [List.length_set]; omega) (.int .i64 num)).cnt ((t.used : Int) + 1)
        have hU5 : ∀ p q r s, Upd [b, g] wr ((((wr.setCell ⟨g, off + k * 5 + 2, none⟩ p).setCell ⟨g, off + k * 5 + 3, none⟩ q).setCell ⟨g, off + k * 5 + 4, none⟩ r).setCell ⟨b, 1, none⟩ s) := fun p q r s =>
          ((((Upd.refl _ _).setCell (a := ⟨g, off + k * 5 + 2, none⟩) (Or.inl (by simp)) _).setCell (a := ⟨g, off + k * 5 + 3, none⟩) (Or.inl (by simp)) _).setCell (a := ⟨g, off + k * 5 + 4, none⟩) (Or.inl (by simp)) _).setCell (a := ⟨b, 1, none⟩) (Or.inl (by simp)) _
        have hB5 := hB.upd (hU5 (.int .i64 1) (.int .i64 kind) (.int .i64 num) (.int .i64 ((t.used : Int) + 1))) (by simp; exact ⟨n5, n3⟩)
        have hUw5 := hU5 (.int .i64 1) (.int .i64 kind) (.int .i64 num) (.int .i64 ((t.used : Int) + 1))
        clear hB hR r0 r1 rf0 rf1 e0 e1 e2 e3 e4 cb fb f2 f3 f4 b0 hfz his
        generalize ((((wr.setCell ⟨g, off + k * 5 + 2, none⟩ (.int .i64 1)).setCell ⟨g, off + k * 5 + 3, none⟩ (.int .i64 kind)).setCell ⟨g, off + k * 5 + 4, none⟩ (.int .i64 num)).setCell ⟨b, 1, none⟩ (.int .i64 ((t.used : Int) + 1))) = w5 at *
        have hZ := (hB5.set 0 (.int .i64 k)).set 1 (.int .i64 x.gen)
        have z0 := hZ.cell (i := 0) rfl
        have z1 := hZ.cell (i := 1) rfl
        refine bodyPost_ret (v := .tuple #[.agg #[.int .i64 k, .int .i64 x.gen], .int .i64 0]) (by simp [results, Try.results11, go_sem, z0, z1]) rfl ?_
        refine ⟨by rw [hE, hH]; rfl, ?_⟩
        rw [hT]
        have hUF : ∀ x y, Upd [rb] w5 ((w5.setCell ⟨rb, 0, none⟩ x).setCell ⟨rb, 1, none⟩ y) := fun x y => ((Upd.refl _ _).setCell (a := ⟨rb, 0, none⟩) (Or.inl (by simp)) _).setCell (a := ⟨rb, 1, none⟩) (Or.inl (by simp)) _
        have hR6 := hR5.upd (hUF (.int .i64 k) (.int .i64 x.gen)) (by simp; exact n6) (by simp; exact n4)
        have hust : (TabM.used (t.set k (x.opened kind num)) : Int) = t.used + 1 := by
          rw [Hus.out, hst]; simp [EntM.opened]
        refine ⟨hR6.tab (t := t.set k (x.opened kind num)) ?_ (by rw [List.length_set]) hust.symm h.base (by rw [List.length_set]; exact hsm) ?_, ?_⟩
        · refine hL.of5 (by simp) (fun p hp => ?_) ?_ ?_ ?_ ?_ ?_
          · repeat rw [List.getElem?_set_ne (by omega)]
          · repeat rw [List.getElem?_set_ne (by omega)]
            exact q0
          · repeat rw [List.getElem?_set_ne (by omega)]
            exact q1
          · repeat rw [List.getElem?_set_ne (by omega)]
            rw [List.getElem?_set_self (by first | omega | (simp only [List.length_set]; omega))]; rfl
          · repeat rw [List.getElem?_set_ne (by omega)]
            rw [List.getElem?_set_self (by first | omega | (simp only [List.length_set]; omega))]; rfl
          · repeat rw [List.getElem?_set_ne (by omega)]
            rw [List.getElem?_set_self (by first | omega | (simp only [List.length_set]; omega))]; rfl
        · intro e he
          rcases List.mem_or_eq_of_mem_set he with h' | h'
          · exact h.fine e h'
          · subst h'
            obtain ⟨y1, y2, y3, y4⟩ := Hxf.out
            exact ⟨y1, y2, Or.inr (Or.inl rfl), Or.inl (by rcases y4 with h' | h'; · exact h'
                                                           · omega)⟩
        · have := hU.trans (fun q hq => Or.inl hq) (Upd.refl [] wr)
          refine ((hU.mono (G := b :: (Value.slice (some ⟨g, off, none⟩) t.length co).ownBlock.toList) (by simp)).trans (fun q hq => Or.inl (by simp [Value.ownBlock] at hq ⊢; exact hq)) hUw5).trans (fun q hq => Or.inr (by simp at hq; omega)) (hUF _ _)
      · have hst' : ¬ (x.st : Int) = 0 := by omega
        go_wp2_with fail
        go_roundw
        case rel => exact ⟨k + 1, hlt, by go_num, fun j y hj hy => by
          rcases Nat.lt_succ_iff_lt_or_eq.1 hj with h' | h'
          · exact hall j y h' hy
          · subst h'; rw [hx] at hy; cases hy; exact hst, by simp⟩
        case measure => simp [intOf]; omega
    · obtain rfl : k = t.length := by omega
      have hfr : t.freeIx = t.length := by
        unfold TabM.freeIx
        refine List.findIdx_eq_length.2 (fun y hy => ?_)
        obtain ⟨j, hj⟩ := List.mem_iff_getElem?.1 hy
        have := hall j y (List.getElem?_eq_some_iff.1 hj).1 hj
        simpa using this
      have hE : t.openE = 4 := by unfold TabM.openE; rw [hfr, if_neg (by omega)]
      have hH : t.openH = (0, 0) := by unfold TabM.openH; rw [hfr, List.getElem?_eq_none (by omega)]
      have hT : t.openT kind num = t := by unfold TabM.openT; rw [hfr, List.getElem?_eq_none (by omega)]
      have r0 := hB.cell (i := 0) rfl
      have r1 := hB.cell (i := 1) rfl
      have rf0 := hB.frozen 0
      have rf1 := hB.frozen 1
      go_wp2_with fail
      (try simp only [Exit.inBlock, Exit.then])
      have hZ := (hB.set 0 (.int .i64 0)).set 1 (.int .i64 0)
      have z0 := hZ.cell (i := 0) rfl
      have z1 := hZ.cell (i := 1) rfl
      refine bodyPost_ret (v := .tuple #[.agg #[.int .i64 0, .int .i64 0], .int .i64 4]) (by simp [results, Try.results11, go_sem, z0, z1]) rfl ?_
      refine ⟨by rw [hE, hH]; rfl, ?_⟩
      rw [hT]
      have hUF : ∀ x y, Upd [rb] wr ((wr.setCell ⟨rb, 0, none⟩ x).setCell ⟨rb, 1, none⟩ y) := fun x y => ((Upd.refl _ _).setCell (a := ⟨rb, 0, none⟩) (Or.inl (by simp)) _).setCell (a := ⟨rb, 1, none⟩) (Or.inl (by simp)) _
      refine ⟨h1.upd (hUF _ _) (by simp; omega) (fun q hq => by have := (hvw q hq).2; simp; omega), (hU.trans (fun q hq => Or.inr (by simp at hq; omega)) (hUF _ _)).mono (by simp)⟩

end Go.Proofs.Ytfejlokinopjbaa
