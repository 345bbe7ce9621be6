/- The walks of the ring's calls Peek, Take, Clear, New, Clone. -/
import Derived.Test.YtnbhgfnjnccakaaRing3
namespace Go.Proofs.Ytnbhgfnjnccakaa
open Go Go.RowKit
set_option linter.unusedVariables false

/-- A slice of bytes in new memory; nothing that was there has turned. -/
def NewB (w w' : World) (v : Value) (bs : List UInt8) : Prop := Own w' w.heap.size 5 1 v bs.length (bs.map byteV) ∧ Upd [] w w'

/-! ### Peek -/

def PeekPost (w : World) (ys : List UInt8) (e : Ending) (w' : World) : Prop :=
  ∃ G, e = .returned (.slice (some ⟨G, 0, none⟩) ys.length ys.length) ∧ w.heap.size ≤ G ∧ Blk w' G 5 (ys.map byteV) ∧ Upd [] w w'

set_option maxHeartbeats 800000 in
set_option maxRecDepth 100000 in
theorem peek_some (b i o g size cap first n k : Nat) (nn : Int) (xs bs : List UInt8) (rest : List Value) (w : World) (hlen : Calls Try.prog 62 #[.pointer (some ⟨b, 0, none⟩)] w fun e w' => e = .returned (.int .i64 (n : Nat)) ∧ w = w')
   (hb : Blk w b 135 (ringCells i o g size cap first n)) (hg : Blk w g 5 (bs.map byteV ++ rest)) (hbs : bs.length = size) (hxs : xs.length = n) (hn : n ≤ size) (hs : size ≤ 65536) (hf : first < size) (hk0 : 0 < k) (hk1 : k ≤ n) (hcap : size ≤ cap)
   (hw : ∀ j c, xs[j]? = some c → bs[wi size first j]? = some c)
   (hmm : (n = k ∧ (n : Int) < nn) ∨ nn = (k : Int)) :
    Calls Try.prog 61 #[.pointer (some ⟨b, 0, none⟩), .int .i64 nn] w (PeekPost w (xs.take k)) := by
  have hk := Nat.le_trans hk1 hn
  have hylen : (xs.take k).length = k := by rw [List.length_take]; omega
  have Hw := Lib.hid hw
  have Hxs := Lib.hid hxs
  have Hbs := Lib.hid hbs
  have Hyl := Lib.hid hylen
  clear hw hxs hbs hylen
  rcases hmm with ⟨hnk, hlt⟩ | rfl
  case' inl => obtain rfl : k = n := hnk.symm
  case' inr => have hkn : ¬ (n : Int) < (k : Int) := by omega
  all_goals
    go_enter Try.func61, Try.ntmps61
    go_wp2_with (first | (go_at_call 62; refine hlen.mono ?_; rintro e w' ⟨rfl, rfl⟩) | (with_reducible refine wpList_make_blk rfl (.tmp 13) (.tmp 13) 35 rfl 5 (.int .u8 0) 1 Try.underlying35 Try.info5 rfl .i64 .i64 k rfl rfl (by omega) (by omega) ?_; intro w1 G hG hB1 hU1; have hG1 := Nat.le_of_eq hG.symm; clear hG))
    have hb1 := hb.upd hU1 (by simp)
    have hg1 := hg.upd hU1 (by simp)
    have hbG : b < G := Nat.lt_of_lt_of_le hb.lt hG1
    have hgG : g < G := Nat.lt_of_lt_of_le hg.lt hG1
    clear hb hg
    have h2 := hb1.cell (i := 2) rfl
    have h3 := hb1.cell (i := 3) rfl
    have hz1 : first ≤ size := by omega
    have hz2 : ¬ cap = first := by omega
    refine wp_region_tail 10 (by kernel_rfl) (by kernel_rfl) ?_
    simp only [List.take_succ_cons, List.take_zero, List.drop_succ_cons, List.drop_zero]
    repeat still_step
    refine wpStill_nil ?_
    have hb2 : Blk w1.drew b 135 _ := hb1
    have hg2 : Blk w1.drew g 5 _ := hg1
    have hB2 : Blk w1.drew G 5 _ := hB1
    have hU2 : Upd [] w w1.drew := hU1.drew
    clear hb1 hg1 hB1 hU1 h2 h3
    generalize w1.drew = w2 at *
    obtain ⟨m1, hm1⟩ : ∃ m1, m1 = min k (size - first) := ⟨_, rfl⟩
    have hbl := Hbs.out
    refine wpList_copy_blk rfl (.tmp 17) (.tmp 26) 35 35 rfl 5 Try.underlying35 (by kernel_rfl) _ _ _ _ _ _ rfl rfl G 0 5 _ hB2 m1 (((bs.drop first).take m1).map byteV) ?_ ?_ ?_ ?_ (bytesV_one _) ?_
    · show m1 = min (size - first) k
      omega
    · simp; omega
    · intro hp
      refine ⟨rfl, g, first, rfl, fun j v hj => ?_⟩
      rw [List.getElem?_map, List.getElem?_take] at hj
      split at hj
      · rw [List.getElem?_drop] at hj
        obtain ⟨c, hc, rfl⟩ := Option.map_eq_some_iff.1 hj
        refine hg2.cell ?_
        rw [List.getElem?_append_left (by simp; have := (List.getElem?_eq_some_iff.1 hc).1; omega), List.getElem?_map, hc]
        rfl
      · cases hj
    · simp; omega
    intro w3 hB3 hU3
    have hb3 := hb2.upd hU3 (by simp; omega)
    have hg3 := hg2.upd hU3 (by simp; omega)
    have hU3 := hU2.trans (fun k hk => Or.inr (by simp at hk; omega)) hU3
    have h2 := hb3.cell (i := 2) rfl
    clear hb2 hg2 hB2 hU2 hbl
    have hm1k : m1 ≤ k := by omega
    have Hm1 := Lib.hid hm1
    clear hm1
    go_wp2_with fail
    refine wp_region_tail 7 (by kernel_rfl) (by kernel_rfl) ?_
    simp only [List.take_succ_cons, List.take_zero, List.drop_succ_cons, List.drop_zero]
    repeat still_step
    refine wpStill_nil ?_
    have hb4 : Blk w3.drew b 135 _ := hb3
    have hg4 : Blk w3.drew g 5 _ := hg3
    have hB4 : Blk w3.drew G 5 _ := hB3
    have hU4 : Upd [] w w3.drew := hU3.drew
    clear hb3 hg3 hB3 hU3 h2
    generalize w3.drew = w4 at *
    have hbl := Hbs.out
    have hm1 := Hm1.out
    have l1 : (((bs.drop first).take m1).map byteV).length = m1 := by simp; omega
    refine wpList_copy_blk rfl (.tmp 30) (.tmp 34) 35 35 rfl 5 Try.underlying35 (by kernel_rfl) _ _ _ _ _ _ rfl rfl G m1 5 _ hB4 (k - m1) ((bs.take (k - m1)).map byteV) ?_ ?_ ?_ ?_ (bytesV_one _) ?_
    · show k - m1 = min size (k - m1)
      omega
    · simp; omega
    · intro hp
      refine ⟨?_, g, 0, rfl, fun j v hj => ?_⟩
      · rw [if_neg (by omega)]
      · rw [List.getElem?_map, List.getElem?_take] at hj
        split at hj
        · obtain ⟨c, hc, rfl⟩ := Option.map_eq_some_iff.1 hj
          refine hg4.cell ?_
          rw [Nat.zero_add, List.getElem?_append_left (by simp; have := (List.getElem?_eq_some_iff.1 hc).1; omega), List.getElem?_map, hc]
          rfl
        · cases hj
    · rw [length_splice _ _ _ (by rw [l1]; simp; omega)]; simp; omega
    intro w5 hB5 hU5
    have hU5 := hU4.trans (fun k hk => Or.inr (by simp at hk; omega)) hU5
    clear hb4 hg4 hB4 hU4 l1 hbl hm1
    have HB := Lib.hid hB5
    clear hB5
    go_wp2_with fail
    all_goals
      go_ret
      refine ⟨G, ?_, hG1, ?_, hU5⟩
      · have h1 := Hyl.out
        first
          | (rw [h1]; rfl)
          | (have hkm : k = m1 := by assumption
             rw [← hkm, h1]; rfl)
      · have hB := HB.out
        have e := peek_get Hbs.out Hxs.out hn hf hk1 Hm1.out Hw.out (List.replicate k 0) (by simp)
        have l1 : ((bs.drop first).take m1).length = m1 := by have := Hbs.out; have := Hm1.out; simp; omega
        have l2 : (bs.take (k - m1)).length = k - m1 := by have := Hbs.out; simp; omega
        try rw [← (show k = m1 by assumption)]
        rw [← e]
        refine hB.eq ?_
        have z : (List.replicate k (Value.int .u8 0)) = (List.replicate k (0 : UInt8)).map byteV ++ [] := by simp [byteV]
        rw [z, splice_map_append _ _ _ _ _ (by rw [l1]; simp; omega), splice_map_append _ _ _ _ _ (by rw [l2, length_splice _ _ _ (by rw [l1]; simp; omega)]; simp; omega), List.append_nil]

set_option maxHeartbeats 400000 in
theorem peek_zero {w : World} {b g : Nat} {r : RingM} (n : Int) (h : RingAt w b g r) (hz : r.xs.length = 0 ∨ n ≤ 0) :
    Calls Try.prog 61 #[.pointer (some ⟨b, 0, none⟩), .int .i64 n] w (PeekPost w []) := by
  have hl := ring_len h
  generalize r.xs.length = q at *
  have hmk : ∀ w, (Instr.makeSlice 35 (.int .i64 0) (.int .i64 0)).run Try.prog w = .ok (.slice (some ⟨w.heap.size, 0, none⟩) 0 0) (w.alloc (.cells #[] 5)) := fun w =>
    (run_make_row' (P := Try.prog) 35 5 (.int .u8 0) 1 Try.underlying35 Try.info5 rfl .i64 .i64 0 (by omega) (by omega) w).trans (by rw [madeCells_one]; rfl)
  rcases hz with rfl | hz
  all_goals
    go_enter Try.func61, Try.ntmps61
    go_wp2_with (go_at_call 62; refine hl.mono ?_; rintro e w' ⟨rfl, rfl⟩)
    all_goals (go_ret; exact ⟨w.heap.size, rfl, Nat.le_refl _, blk_new w 5 [], (Upd.refl _ _).alloc _⟩)

theorem ring_peek {w : World} {b g : Nat} {r : RingM} (n : Int) (h : RingAt w b g r) :
    Calls Try.prog 61 #[.pointer (some ⟨b, 0, none⟩), .int .i64 n] w (PeekPost w (r.peek n)) := by
  by_cases hk : r.cnt n = 0
  · have hz : r.xs.length = 0 ∨ n ≤ 0 := by unfold RingM.cnt at hk; omega
    have : r.peek n = [] := by unfold RingM.peek; rw [hk]; rfl
    rw [this]
    exact peek_zero n h hz
  · have hl := ring_len h
    obtain ⟨cap, first, bs, rest, h⟩ := h
    have hc := r.cnt_le n
    have hfit := h.fit
    have hfirst : first < r.size := by have := h.hfirst; omega
    have hcase : (r.xs.length = r.cnt n ∧ (r.xs.length : Int) < n) ∨ n = (r.cnt n : Int) := by unfold RingM.cnt at *; omega
    exact peek_some b r.i r.o g r.size cap first r.xs.length (r.cnt n) n r.xs bs rest w hl h.blk h.row h.len rfl hfit h.small hfirst (by omega) hc h.cap h.win hcase

end Go.Proofs.Ytnbhgfnjnccakaa
