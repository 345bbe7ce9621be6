/- The walks of the table's calls Live and Clone. -/
import Derived.Test.YtfejlokinopjbaaDesc12
namespace Go.Proofs.Ytfejlokinopjbaa
open Go Go.RowKit
set_option linter.unusedVariables false

set_option maxHeartbeats 1000000 in
set_option maxRecDepth 100000 in
theorem tab_live {w : World} {base b : Nat} {v : Value} {t : TabM} (h : TabAt w base b v t) :
    Calls Try.prog 15 #[.pointer (some ⟨b, 0, none⟩)] w (LivePost w t.live) := by
  have his := tab_is h
  have b0 := h.blk.cell (i := 0) rfl
  have hsm := h.small
  obtain ⟨ao, co, rfl⟩ := h.shape
  go_enter Try.func15, Try.ntmps15
  go_wp2_with (go_at_call 22; refine his.mono ?_; rintro e w' ⟨rfl, rfl⟩)
  go_loopw [3, 15] (fun out i wr => ∃ k : Nat, k ≤ t.length ∧ i = .int .i64 k ∧ Own wr w.heap.size 30 2 out (t.liveTo k).length (hcells (t.liveTo k)) ∧ Upd [] w wr) (fun _ i _ => t.length - (intOf i).toNat)
  case atStart => exact ⟨0, Nat.zero_le _, rfl, own_nil _ _ _ _, Upd.refl _ _⟩
  case round =>
    obtain ⟨k, hk, rfl, hown, hU⟩ := hrel
    obtain ⟨ao2, co2, rfl⟩ := hown.shape
    by_cases hlt : k < t.length
    · have h1 := h.upd hU (by simp) (by simp)
      obtain ⟨x, hx⟩ : ∃ x, t[k]? = some x := ⟨t[k], List.getElem?_eq_getElem hlt⟩
      obtain ⟨g, off, cap, hv, e0, e1, e2, e3, e4, hfz⟩ := h1.cells hx
      cases hv
      have eadd : (⟨g, off, none⟩ : Addr).add (k * 5) = ⟨g, off + k * 5, none⟩ := addr_add _ _ _
      have hll := TabM.liveTo_succ hx
      have hle := t.liveTo_le k
      by_cases hst : x.st = 1
      · rw [hst] at e2
        rw [if_pos hst] at hll
        have hN := blk_new' (wr.alloc (.cells #[.int .i64 k, .int .i64 x.gen, .int .i64 1, .int .i64 x.kind, .int .i64 x.num] 58)) 30 #[.int .i64 k, .int .i64 x.gen]
        have hU2 : Upd [] w ((wr.alloc (.cells #[.int .i64 k, .int .i64 x.gen, .int .i64 1, .int .i64 x.kind, .int .i64 x.num] 58)).alloc (.cells #[.int .i64 k, .int .i64 x.gen] 30)) := (hU.alloc _).alloc _
        have hUr : Upd [] wr ((wr.alloc (.cells #[.int .i64 k, .int .i64 x.gen, .int .i64 1, .int .i64 x.kind, .int .i64 x.num] 58)).alloc (.cells #[.int .i64 k, .int .i64 x.gen] 30)) := ((Upd.refl _ _).alloc _).alloc _
        have hown2 := hown.upd hUr (by simp)
        clear h1 hfz
        go_wp2_with (with_reducible refine wpList_append_gen rfl (.tmp 23) (.tmp 26) 39 39 rfl 30 (.agg #[.int .i64 0, .int .i64 0]) 2 16 Try.underlying39 Try.infoHandle rfl w.heap.size ?a1 (.slice ao2 (t.liveTo k).length co2) (t.liveTo k).length (hcells (t.liveTo k)) rfl ?a2 _ 1 [.int .i64 k, .int .i64 x.gen] rfl ?a3 ?a4 ?a5 ?a6)
        case a1 => have := hU.size; omega
        case a3 => exact Src.ofSlice _ Try.underlying39 ⟨_, 0, none⟩ _ _ _ (by simp) (fun j u hj => by rw [addr_add, Nat.zero_add]; have := hN.cell hj; simp only [World.size_alloc] at this; exact this) (by intro u hu; simp at hu; rcases hu with rfl | rfl <;> rfl)
        case a4 => unfold maxLen; omega
        case a5 => omega
        case a6 =>
          intro v' wa hown' hUa hblk hnil' hoff
          have hUb := hU2.trans (fun q hq => Or.inr (hown.lt q (mem_ownD hq)).1) hUa
          have hown'' : Own wa w.heap.size 30 2 v' (t.liveTo (k + 1)).length (hcells (t.liveTo (k + 1))) := by
            rw [hll, List.length_append, hcells_append]
            exact hown'
          clear hown' hUa hblk hnil' hoff hU hown hN hU2 hUr hown2
          go_wp2_with fail
          go_roundw
          case rel => exact ⟨k + 1, hlt, by go_num, hown'', hUb⟩
          case measure => simp [intOf]; omega
      · have hst' : ¬ (x.st : Int) = 1 := by omega
        rw [if_neg hst, List.append_nil] at hll
        have hU2 := hU.alloc (.cells #[.int .i64 k, .int .i64 x.gen, .int .i64 x.st, .int .i64 x.kind, .int .i64 x.num] 58)
        have hown2 := hown.upd ((Upd.refl [] wr).alloc (.cells #[.int .i64 k, .int .i64 x.gen, .int .i64 x.st, .int .i64 x.kind, .int .i64 x.num] 58)) (by simp)
        clear h1 hfz hown hU
        go_wp2_with fail
        go_roundw
        case rel => exact ⟨k + 1, hlt, by go_num, by rw [hll]; exact hown2, hU2⟩
        case measure => simp [intOf]; omega
    · obtain rfl : k = t.length := by omega
      go_wp2_with fail
      go_ret
      exact ⟨_, rfl, hown, hU⟩

/-! ### Clone -/

def TabClonePost (w : World) (t : TabM) (e : Ending) (w' : World) : Prop :=
  ∃ b v, e = .returned (.pointer (some ⟨b, 0, none⟩)) ∧ TabAt w' w.heap.size b v t ∧ Upd [] w w'

set_option maxHeartbeats 1000000 in
set_option maxRecDepth 100000 in
theorem tab_clone {w : World} {base b : Nat} {v : Value} {t : TabM} (h : TabAt w base b v t) :
    Calls Try.prog 18 #[.pointer (some ⟨b, 0, none⟩)] w (TabClonePost w t) := by
  have his := tab_is h
  have b0 := h.blk.cell (i := 0) rfl
  have b1 := h.blk.cell (i := 1) rfl
  have b2 := h.blk.cell (i := 2) rfl
  have hsm := h.small
  have hbl := h.lt
  obtain ⟨xs, hown, hL⟩ := h.ex
  obtain ⟨ao, co, hv⟩ := h.shape
  have h1 := hL.one (fun _ _ => rfl) (fun i e u hu => by simp [entC] at hu; rcases hu with rfl | rfl | rfl | rfl | rfl <;> rfl)
  have hU1 : Upd [] w (w.alloc (.cells #[v, .int .i64 (t.used : Nat), .bool true] 54)) := (Upd.refl _ _).alloc _
  have hC := blk_new' w 54 #[v, .int .i64 (t.used : Nat), .bool true]
  have hE := blk_new' (w.alloc (.cells #[v, .int .i64 (t.used : Nat), .bool true] 54)) 58 #[]
  have hU2 : Upd [] w ((w.alloc (.cells #[v, .int .i64 (t.used : Nat), .bool true] 54)).alloc (.cells #[] 58)) := hU1.alloc _
  have hC2 := hC.upd ((Upd.refl [] _).alloc (.cells #[] 58)) (by simp)
  have hown2 := hown.upd hU2 (by simp)
  have hs1 : (w.alloc (.cells #[v, .int .i64 (t.used : Nat), .bool true] 54)).heap.size = w.heap.size + 1 := by simp
  rw [hs1] at hE
  subst hv
  go_enter Try.func18, Try.ntmps18
  go_wp2_with (first | (go_at_call 22; refine his.mono ?_; rintro e w' ⟨rfl, rfl⟩) | (with_reducible refine wpList_append_gen rfl (.tmp 10) (.tmp 14) 52 52 rfl 58 (.agg #[.int .i64 0, .int .i64 0, .int .i64 0, .int .i64 0, .int .i64 0]) 5 40 Try.underlying52 Try.infoEnt rfl w.heap.size ?a1 _ 0 [] rfl ?a2 _ t.length xs rfl ?a3 ?a4 ?a5 ?a6))
  case a1 => exact hU2.size
  case a2 => exact ⟨by simp, Or.inr ⟨w.heap.size + 1, 0, 0, [], [], rfl, by omega, hE, rfl, by simp, Nat.le_refl _, by unfold maxLen; omega⟩⟩
  case a3 => exact hown2.src h1 Try.underlying52
  case a4 => unfold maxLen; omega
  case a5 => omega
  case a6 =>
    intro v' wa hown' hUa hblk hnil' hoff
    have hUb := hU2.trans (fun q hq => Or.inr (by have := mem_ownD hq; simp [Value.ownBlock] at this; omega)) hUa
    have hC3 := hC2.upd hUa (fun hq => by have := mem_ownD hq; simp [Value.ownBlock] at this)
    have hc0 := hC3.cell (i := 0) rfl
    have hf0 := hC3.frozen 0
    have hap : ∀ q, v'.ownBlock = some q → q ≠ w.heap.size := fun q hq e => by
      rcases hblk q hq with h' | h'
      · simp [Value.ownBlock] at h'; omega
      · omega
    clear hown2 hC2 hC hE hU1 his b0 b1 b2
    obtain ⟨ao2, co2, rfl⟩ := hown'.shape
    go_wp2_with fail
    go_ret
    refine ⟨w.heap.size, _, rfl, ⟨(hC3.set 0 _).eq rfl, ⟨xs, hown'.upd ((Upd.refl [w.heap.size] _).setCell (Or.inl (by simp)) _) (fun q hq => by simp; exact hap q hq), hL⟩, hap, Nat.le_refl _, hsm, h.fine⟩, hUb.setCell (Or.inr (Nat.le_refl _)) _⟩

end Go.Proofs.Ytfejlokinopjbaa
