/- The walks of the table's calls Age, New. -/
import Derived.Test.YtfejlokinopjbaaDesc5
import Derived.OwnWalk
namespace Go.Proofs.Ytfejlokinopjbaa
open Go Go.RowKit
set_option linter.unusedVariables false

/-! ### New -/

def NewTab (w : World) (t : TabM) (e : Ending) (w' : World) : Prop :=
  ∃ b v, e = .returned (.tuple #[.pointer (some ⟨b, 0, none⟩), .int .i64 0]) ∧ TabAt w' w.heap.size b v t ∧ Upd [] w w'

theorem tab_new_bad (n : Int) (w : World) (h : n < 0 ∨ 4096 < n) :
    Calls Try.prog 9 #[.int .i64 n] w fun e w' => e = .returned (.tuple #[.pointer none, .int .i64 2]) ∧ w = w' := by
  rcases h with h | h
  · go_enter Try.func9, Try.ntmps9
    go_wp2
    go_ret2
    exact ⟨rfl, rfl⟩
  · have h' : ¬ n < 0 := by omega
    go_enter Try.func9, Try.ntmps9
    go_wp2
    go_ret2
    exact ⟨rfl, rfl⟩

theorem madeCells_zero (z : Array Value) (n : Nat) (hz : z.size = 5) (h : ∀ j, j < 5 → z[j]! = .int .i64 0) : madeCells z n = (List.replicate n (Value.int .i64 0)).toArray := by
  apply Array.ext
  · simp [madeCells]
  · intro i h1 h2
    simp [madeCells, hz]
    rw [h _ (Nat.mod_lt _ (by decide))]

theorem new_used (n : Nat) : TabM.used (TabM.new n) = 0 := by
  simp [TabM.used, TabM.new, List.countP_replicate]

/-- The entries while they are being made: the first k are done. -/
def fk (k : Nat) (i : Nat) (e : EntM) : List Value := if i < k then entC i e else [.int .i64 0, .int .i64 0, .int .i64 0, .int .i64 0, .int .i64 0]

theorem lay_start (n : Nat) : Lay (fk 0) (List.replicate (n * 5) (Value.int .i64 0)) (TabM.new n) := by
  refine ⟨by simp [TabM.new], fun i e hi j v hv => ?_⟩
  have hin : i < n := by have := (List.getElem?_eq_some_iff.1 hi).1; simpa [TabM.new] using this
  have hj : j < 5 := (List.getElem?_eq_some_iff.1 hv).1
  have : v = .int .i64 0 := by
    rcases j with _ | _ | _ | _ | _ | j <;> simp [fk] at hv
    all_goals exact hv.symm
  subst this
  rw [List.getElem?_replicate, if_pos (by omega)]

theorem lay_step {n k : Nat} {xs : List Value} (h : Lay (fk k) xs (TabM.new n)) (hk : k < n) : Lay (fk (k + 1)) ((xs.set (k * 5) (.int .i64 k)).set (k * 5 + 1) (.int .i64 1)) (TabM.new n) := by
  refine ⟨by rw [List.length_set, List.length_set]; exact h.1, fun i e hi j v hv => ?_⟩
  have hl := h.1
  have hnl : (TabM.new n).length = n := by simp [TabM.new]
  have he : e = ⟨1, 0, 0, 0⟩ := by
    have := hi
    simp [TabM.new, List.getElem?_replicate] at this
    exact this.2.symm
  have hj : j < 5 := by
    have := (List.getElem?_eq_some_iff.1 hv).1
    unfold fk at this
    split at this <;> exact this
  by_cases hik : i = k
  · subst hik
    have hold := fun j v (hv : (fk i i e)[j]? = some v) => h.2 i e hi j v hv
    subst he
    rcases j with _ | _ | _ | _ | _ | j <;> simp [fk, entC] at hv
    · subst hv
      show (((xs.set (i * 5) (.int .i64 i)).set (i * 5 + 1) (.int .i64 1)))[i * 5]? = _
      rw [List.getElem?_set_ne (by omega), List.getElem?_set_self (by omega)]
    · subst hv
      rw [List.getElem?_set_self (by rw [List.length_set]; omega)]
    · subst hv
      rw [List.getElem?_set_ne (by omega), List.getElem?_set_ne (by omega)]
      exact hold 2 _ (by simp [fk])
    · subst hv
      rw [List.getElem?_set_ne (by omega), List.getElem?_set_ne (by omega)]
      exact hold 3 _ (by simp [fk])
    · subst hv
      rw [List.getElem?_set_ne (by omega), List.getElem?_set_ne (by omega)]
      exact hold 4 _ (by simp [fk])
  · rw [List.getElem?_set_ne (by omega), List.getElem?_set_ne (by omega)]
    refine h.2 i e hi j v ?_
    rw [← hv]
    unfold fk
    by_cases hlt : i < k
    · rw [if_pos hlt, if_pos (by omega)]
    · rw [if_neg hlt, if_neg (by omega)]

theorem lay_end {n : Nat} {xs : List Value} (h : Lay (fk n) xs (TabM.new n)) : Lay entC xs (TabM.new n) := by
  refine ⟨h.1, fun i e hi j v hv => h.2 i e hi j v ?_⟩
  have hin : i < n := by have := (List.getElem?_eq_some_iff.1 hi).1; simpa [TabM.new] using this
  unfold fk
  rw [if_pos hin]
  exact hv

set_option maxHeartbeats 1000000 in
set_option maxRecDepth 100000 in
theorem tab_new (n : Nat) (w : World) (hn : n ≤ 4096) : Calls Try.prog 9 #[.int .i64 n] w (NewTab w (TabM.new n)) := by
  obtain ⟨i0, hi, hz0, hz1, hz2⟩ := info_parts Try.infoEnt
  have hmk : ∀ u : World, (Instr.makeSlice 52 (.int .i64 n) (.int .i64 n)).run Try.prog u = .ok (.slice (some ⟨u.heap.size, 0, none⟩) n n) (u.alloc (.cells (List.replicate (n * 5) (Value.int .i64 0)).toArray 58)) := fun u => by
    have h := run_make (P := Try.prog) u 52 58 i0 _ Try.underlying52 hi hz0 .i64 .i64 (n : Int) (n : Int) (by omega) (Int.le_refl _) (by rw [hz2]; omega) (by omega)
    rw [hz1, Int.toNat_natCast] at h
    rw [h, madeCells_zero _ _ rfl (by intro j hj; rcases j with _ | _ | _ | _ | _ | j <;> first | rfl | omega)]
  go_enter Try.func9, Try.ntmps9
  go_wp2_with fail
  have hst : Raw ((w.alloc (.cells (List.replicate (n * 5) (Value.int .i64 0)).toArray 58)).alloc (.cells #[.slice (some ⟨w.heap.size, 0, none⟩) n n, .int .i64 0, .bool true] 54)) w.heap.size (w.heap.size + 1) w.heap.size 0 n n (List.replicate (n * 5) (Value.int .i64 0)) 0 := by
    refine ⟨?_, ⟨by simp, Or.inr ⟨w.heap.size, 0, n, [], [], rfl, Nat.le_refl _, ?_, rfl, by simp, Nat.le_refl _, by unfold maxLen; omega⟩⟩, by omega⟩
    · have := blk_new' (w.alloc (.cells (List.replicate (n * 5) (Value.int .i64 0)).toArray 58)) 54 #[.slice (some ⟨w.heap.size, 0, none⟩) n n, .int .i64 0, .bool true]
      simpa using this
    · have := (blk_new w 58 (List.replicate (n * 5) (Value.int .i64 0))).alloc (.cells #[.slice (some ⟨w.heap.size, 0, none⟩) n n, .int .i64 0, .bool true] 54)
      simpa using this
  have hU : Upd [] w ((w.alloc (.cells (List.replicate (n * 5) (Value.int .i64 0)).toArray 58)).alloc (.cells #[.slice (some ⟨w.heap.size, 0, none⟩) n n, .int .i64 0, .bool true] 54)) := ((Upd.refl _ _).alloc _).alloc _
  have e1 : (List.replicate (n * 5) (Value.int .i64 0)).toArray = Array.replicate (n * 5) (Value.int .i64 0) := by simp
  rw [e1] at hst hU
  clear hmk hi hz0 hz1 hz2 e1
  generalize hg : w.heap.size = g at *
  generalize ((w.alloc (.cells (Array.replicate (n * 5) (Value.int .i64 0)) 58)).alloc (.cells #[.slice (some ⟨g, 0, none⟩) n n, .int .i64 0, .bool true] 54)) = w1 at *
  go_loopw [21] (fun i wr => ∃ k : Nat, k ≤ n ∧ i = .int .i64 k ∧ (∃ xs, Raw wr g (g + 1) g 0 n n xs 0 ∧ Lay (fk k) xs (TabM.new n)) ∧ Upd [] w wr) (fun i _ => n - (intOf i).toNat)
  case atStart => exact ⟨0, Nat.zero_le _, rfl, ⟨_, hst, lay_start n⟩, hU⟩
  case round =>
    clear hst hU
    obtain ⟨k, hk, rfl, ⟨xs, hR, hL⟩, hU⟩ := hrel
    have hnl : (TabM.new n).length = n := by simp [TabM.new]
    have hxl := hL.1
    by_cases hlt : k < n
    · have b0 := hR.blk.cell (i := 0) rfl
      have q0 := hL.2 k ⟨1, 0, 0, 0⟩ (by simp [TabM.new, hlt]) 0 (.int .i64 0) (by simp [fk])
      have q1 := hL.2 k ⟨1, 0, 0, 0⟩ (by simp [TabM.new, hlt]) 1 (.int .i64 0) (by simp [fk])
      have c0 := hR.cell q0
      have c1 := hR.cell q1
      have f0 := hR.frozen (k * 5)
      have f1 := hR.frozen (k * 5 + 1)
      have eadd : (⟨g, 0, none⟩ : Addr).add (k * 5) = ⟨g, k * 5, none⟩ := by rw [addr_add, Nat.zero_add]
      have hR2 := (hR.ent (i := k) (j := 0) (by omega) (.int .i64 k)).ent (i := k) (j := 1) (by rw [List.length_set]; omega) (.int .i64 1)
      simp only [Nat.zero_add, Nat.add_zero] at hR2 c0 c1
      have hL2 := lay_step hL hlt
      have hU2 := (hU.setCell (a := ⟨g, k * 5, none⟩) (Or.inr (Nat.le_of_eq hg)) (.int .i64 k)).setCell (a := ⟨g, k * 5 + 1, none⟩) (Or.inr (Nat.le_of_eq hg)) (.int .i64 1)
      clear hR hL hU
      go_wp2_with fail
      go_roundw
      case rel => exact ⟨k + 1, hlt, by go_num, ⟨_, hR2, hL2⟩, hU2⟩
      case measure => simp [intOf]; omega
    · obtain rfl : k = n := by omega
      go_wp2_with fail
      go_ret2
      have hT : TabAt wr g (g + 1) (.slice (some ⟨g, 0, none⟩) k k) (TabM.new k) := by
        refine hR.tab (lay_end hL) hnl.symm (by rw [new_used]; rfl) (by omega) (by rw [hnl]; exact hn) (fun e he => ?_)
        have : e = ⟨1, 0, 0, 0⟩ := by simp [TabM.new] at he; exact he.2
        subst this
        exact ⟨by decide, by simp, Or.inl rfl, Or.inl (by simp)⟩
      rw [← hg] at hT
      exact ⟨w.heap.size + 1, _, by rw [hg]; rfl, hT, hU⟩

end Go.Proofs.Ytfejlokinopjbaa
