/- The walks of the document's table: Live, New. -/
import Derived.Test.YtfejlokinopjbaaRefT5
namespace Go.Proofs.Ytfejlokinopjbaa
open Go Go.RowKit
set_option linter.unusedVariables false

set_option maxHeartbeats 1000000 in
set_option maxRecDepth 100000 in
theorem rt_live {w : World} {base c : Nat} {v : Value} {t : TabM} (h : RTab w base c v t) :
    Calls Try.prog 21 #[.pointer (some ⟨c, 0, none⟩)] w (LivePost w t.live) := by
  have hsm := h.small
  obtain ⟨ao, co, rfl⟩ := h.shape
  have hst : Own (w.alloc (.cells #[] 30)) w.heap.size 30 2 (.slice (some ⟨w.heap.size, 0, none⟩) 0 0) 0 [] :=
    ⟨rfl, Or.inr ⟨w.heap.size, 0, 0, [], [], rfl, Nat.le_refl _, by simpa [hcells] using blk_new w 30 [], rfl, by simp, Nat.le_refl _, by decide⟩⟩
  have hUs : Upd [] w (w.alloc (.cells #[] 30)) := (Upd.refl _ _).alloc _
  go_enter Try.func21, Try.ntmps21
  go_wp2_with fail
  generalize w.alloc (.cells #[] 30) = w0 at *
  generalize hv0 : Value.slice (some ⟨w.heap.size, 0, none⟩) 0 0 = v0 at *
  go_loopw [3, 4] (fun out i wr => ∃ k : Nat, k ≤ t.length ∧ i = .int .i64 k ∧ Own wr w.heap.size 30 2 out (t.liveTo k).length (hcells (t.liveTo k)) ∧ Upd [] w wr) (fun _ i _ => t.length - (intOf i).toNat)
  case atStart => exact ⟨0, Nat.zero_le _, rfl, hst, hUs⟩
  case round =>
    clear hst hUs hv0
    obtain ⟨k, hk, rfl, hown, hU⟩ := hrel
    obtain ⟨ao2, co2, rfl⟩ := hown.shape
    have h1 := h.upd hU (by simp) (by simp)
    have b0 := h1.blk.cell (i := 0) rfl
    by_cases hlt : k < t.length
    · obtain ⟨x, hx⟩ : ∃ x, t[k]? = some x := ⟨t[k], List.getElem?_eq_getElem hlt⟩
      obtain ⟨g, off, cap, hv, e0, e1, e2, e3, e4, hfz⟩ := h1.cells hx
      cases hv
      have eadd : (⟨g, off, none⟩ : Addr).add (k * 5) = ⟨g, off + k * 5, none⟩ := addr_add _ _ _
      have hll := TabM.liveTo_succ hx
      have hle := t.liveTo_le k
      by_cases hst : x.st = 1
      · have s0 : (x.st == 1) = true := by rw [hst]; rfl
        rw [s0] at e0
        rw [if_pos hst] at hll
        have hN := blk_new' wr 30 #[.int .i64 k, .int .i64 x.gen]
        have hU2 : Upd [] w (wr.alloc (.cells #[.int .i64 k, .int .i64 x.gen] 30)) := hU.alloc _
        have hown2 := hown.upd ((Upd.refl [] wr).alloc (.cells #[.int .i64 k, .int .i64 x.gen] 30)) (by simp)
        clear h1 hfz
        go_wp2_with (with_reducible refine wpList_append_gen rfl (.tmp 23) (.tmp 34) 39 39 rfl 30 (.agg #[.int .i64 0, .int .i64 0]) 2 16 Try.underlying39 Try.infoHandle rfl w.heap.size ?a1 (.slice ao2 (t.liveTo k).length co2) (t.liveTo k).length (hcells (t.liveTo k)) rfl ?a2 _ 1 [.int .i64 k, .int .i64 x.gen] rfl ?a3 ?a4 ?a5 ?a6)
        case a1 => have := hU.size; omega
        case a3 => exact Src.ofSlice _ Try.underlying39 ⟨_, 0, none⟩ _ _ _ (by simp) (fun j u hj => by rw [addr_add, Nat.zero_add]; exact hN.cell hj) (by intro u hu; simp at hu; rcases hu with rfl | rfl <;> rfl)
        case a4 => unfold maxLen; omega
        case a5 => omega
        case a6 =>
          intro v' wa hown' hUa hblk hnil' hoff
          have hUb := hU2.trans (fun q hq => Or.inr (hown.lt q (mem_ownD hq)).1) hUa
          have hown'' : Own wa w.heap.size 30 2 v' (t.liveTo (k + 1)).length (hcells (t.liveTo (k + 1))) := by
            rw [hll, List.length_append, hcells_append]
            exact hown'
          clear hown' hUa hblk hnil' hoff hU hown hN hU2 hown2
          go_wp2_with fail
          go_roundw
          case rel => exact ⟨k + 1, hlt, by go_num, hown'', hUb⟩
          case measure => simp [intOf]; omega
      · have s0 : (x.st == 1) = false := by simpa using hst
        rw [s0] at e0
        rw [if_neg hst, List.append_nil] at hll
        clear h1 hfz
        go_wp2_with fail
        go_roundw
        case rel => exact ⟨k + 1, hlt, by go_num, by rw [hll]; exact hown, hU⟩
        case measure => simp [intOf]; omega
    · obtain rfl : k = t.length := by omega
      go_wp2_with fail
      go_ret
      exact ⟨_, rfl, hown, hU⟩

set_option maxHeartbeats 1000000 in
set_option maxRecDepth 100000 in
theorem rt_age {w : World} {base c : Nat} {v : Value} {t : TabM} (ix gen : Int) (h : RTab w base c v t) :
    Calls Try.prog 28 #[.pointer (some ⟨c, 0, none⟩), .int .i64 ix, .int .i64 gen] w fun e w' =>
      e = .returned (.int .i64 (t.ageE ix gen : Nat)) ∧ RPost w base c v (t.aged ix gen) w' := by
  have b0 := h.blk.cell (i := 0) rfl
  have hsm := h.small
  obtain ⟨ao, co, rfl⟩ := h.shape
  have same : ∀ n, t.ageE ix gen = n → n ≠ 0 → RPost w base c (.slice ao t.length co) (t.aged ix gen) w := fun n h1 h2 => by
    have : t.aged ix gen = t := by unfold TabM.aged; rw [if_neg (by rw [h1]; exact h2)]
    rw [this]
    exact ⟨h, Upd.refl _ _⟩
  by_cases hneg : ix < 0
  · have hl : t.ageE ix gen = 5 := by unfold TabM.ageE; rw [if_pos hneg]
    have hs := same 5 hl (by decide)
    rw [hl]
    go_enter Try.func28, Try.ntmps28
    go_wp2_with fail
    go_ret
    exact ⟨rfl, hs⟩
  · obtain ⟨i, rfl⟩ := Int.eq_ofNat_of_zero_le (show 0 ≤ ix by omega)
    by_cases hi : i < t.length
    · obtain ⟨x, hx⟩ : ∃ x, t[i]? = some x := ⟨t[i], List.getElem?_eq_getElem hi⟩
      obtain ⟨g, off, cap, hv, e0, e1, e2, e3, e4, hfz⟩ := h.cells hx
      cases hv
      obtain ⟨hx1, hx2, hx3, hx4⟩ := h.fine x (List.mem_of_getElem? hx)
      have eadd : (⟨g, off, none⟩ : Addr).add (i * 5) = ⟨g, off + i * 5, none⟩ := addr_add _ _ _
      have hl : t.ageE i gen = if x.st ≠ 0 then 5 else if gen < x.gen ∨ 1048576 < gen then 2 else 0 := by
        unfold TabM.ageE; rw [if_neg hneg, Int.toNat_natCast, hx]
      by_cases hst : x.st = 0
      · have s0 : (x.st == 1) = false := by rw [hst]; rfl
        have s1 : (x.st == 2) = false := by rw [hst]; rfl
        rw [s0] at e0
        rw [s1] at e1
        by_cases g1 : gen < x.gen
        · have hl : t.ageE i gen = 2 := by rw [hl, if_neg (by omega), if_pos (Or.inl g1)]
          have hs := same 2 hl (by decide)
          rw [hl]
          go_enter Try.func28, Try.ntmps28
          go_wp2_with fail
          go_ret
          exact ⟨rfl, hs⟩
        · by_cases g2 : 1048576 < gen
          · have hl : t.ageE i gen = 2 := by rw [hl, if_neg (by omega), if_pos (Or.inr g2)]
            have hs := same 2 hl (by decide)
            rw [hl]
            go_enter Try.func28, Try.ntmps28
            go_wp2_with fail
            go_ret
            exact ⟨rfl, hs⟩
          · obtain ⟨m, rfl⟩ := Int.eq_ofNat_of_zero_le (show 0 ≤ gen by omega)
            have hl : t.ageE i m = 0 := by rw [hl, if_neg (by omega), if_neg (by omega)]
            have ha : t.aged i m = t.set i { x with gen := m } := by unfold TabM.aged; rw [if_pos hl, Int.toNat_natCast, hx, Int.toNat_natCast]
            have f1 := hfz (off + i * 5 + 2)
            have pp := h.write (e' := { x with gen := m }) (u := .int .i64 m) hx (j := 2) (by decide) rfl ⟨by show 1 ≤ m; omega, by show m ≤ 1048577; omega, hx3, Or.inl (by show m ≤ 1048576; omega)⟩
            clear same
            rw [hl, ha]
            go_enter Try.func28, Try.ntmps28
            go_wp2_with fail
            go_ret
            refine ⟨rfl, ?_⟩
            first | exact pp | (rw [hst] at pp; exact pp)
      · have hl : t.ageE i gen = 5 := by rw [hl, if_pos hst]
        have hs := same 5 hl (by decide)
        rw [hl]
        rcases (show x.st = 1 ∨ x.st = 2 by omega) with h0 | h0 <;> rw [h0] at e0 e1
        all_goals
          clear hst h0 hx3 hx4
          go_enter Try.func28, Try.ntmps28
          go_wp2_with fail
          go_ret
          exact ⟨rfl, hs⟩
    · have hl : t.ageE i gen = 5 := by unfold TabM.ageE; rw [if_neg hneg, Int.toNat_natCast, List.getElem?_eq_none (by omega)]
      have hs := same 5 hl (by decide)
      rw [hl]
      go_enter Try.func28, Try.ntmps28
      go_wp2_with fail
      go_ret
      exact ⟨rfl, hs⟩

/-! ### New -/

theorem Try.infoEntR : (Try.prog.info? 66).map (fun i => (i.zero, i.size, i.bytes)) = some (some (.agg #[.bool false, .bool false, .int .i64 0, .int .i64 0, .int .i64 0]), 5, 32) := by kernel_rfl

def NewRTab (w : World) (t : TabM) (e : Ending) (w' : World) : Prop :=
  ∃ v, e = .returned (.tuple #[.pointer (some ⟨w.heap.size, 0, none⟩), .int .i64 0]) ∧ RTab w' w.heap.size w.heap.size v t ∧ Upd [] w w'

theorem rt_new_bad (n : Int) (w : World) (h : n < 0 ∨ 4096 < n) :
    Calls Try.prog 17 #[.int .i64 n] w fun e w' => e = .returned (.tuple #[.pointer none, .int .i64 2]) ∧ w = w' := by
  rcases h with h | h
  · go_enter Try.func17, Try.ntmps17
    go_wp2
    go_ret2
    exact ⟨rfl, rfl⟩
  · have h' : ¬ n < 0 := by omega
    go_enter Try.func17, Try.ntmps17
    go_wp2
    go_ret2
    exact ⟨rfl, rfl⟩

theorem TabM.new_succ (k : Nat) : TabM.new (k + 1) = TabM.new k ++ [⟨1, 0, 0, 0⟩] := by
  unfold TabM.new
  rw [List.replicate_succ']
theorem TabM.new_length (k : Nat) : (TabM.new k).length = k := by simp [TabM.new]
theorem TabM.new_fine (k : Nat) : ∀ e ∈ TabM.new k, e.fine := by
  intro e he
  have : e = ⟨1, 0, 0, 0⟩ := by simp [TabM.new] at he; exact he.2
  subst this
  exact ⟨by decide, by simp, Or.inl rfl, Or.inl (by simp)⟩

theorem lay_snoc {xs : List Value} {t : TabM} {e : EntM} (h : Lay entR xs t) : Lay entR (xs ++ entR t.length e) (t ++ [e]) := by
  have hl := h.1
  refine ⟨by rw [List.length_append, List.length_append, hl]; show _ + 5 = _; simp; omega, fun i x hi j v hv => ?_⟩
  have hj : j < 5 := (List.getElem?_eq_some_iff.1 hv).1
  rw [List.getElem?_append] at hi
  split at hi
  · rename_i hlt
    rw [List.getElem?_append_left (by omega)]
    exact h.2 i x hi j v hv
  · rename_i hge
    have hi0 : i - t.length = 0 := by
      have := (List.getElem?_eq_some_iff.1 hi).1
      simp at this; omega
    rw [hi0] at hi
    simp at hi
    subst hi
    rw [List.getElem?_append_right (by omega), show i * 5 + j - xs.length = j by omega]
    exact hv

set_option maxHeartbeats 1000000 in
set_option maxRecDepth 100000 in
theorem rt_new (n : Nat) (w : World) (hn : n ≤ 4096) : Calls Try.prog 17 #[.int .i64 n] w (NewRTab w (TabM.new n)) := by
  go_enter Try.func17, Try.ntmps17
  go_wp2_with fail
  have hst : RTab (w.alloc (.cells #[.slice none 0 0] 64)) w.heap.size w.heap.size (.slice none 0 0) (TabM.new 0) :=
    ⟨blk_new' w 64 #[.slice none 0 0], ⟨[], own_nil _ _ _ _, ⟨rfl, fun i e hi => by simp [TabM.new] at hi⟩⟩, (fun q hq => by cases hq), Nat.le_refl _, by simp [TabM.new], TabM.new_fine 0⟩
  have hU : Upd [] w (w.alloc (.cells #[.slice none 0 0] 64)) := (Upd.refl _ _).alloc _
  generalize hg : w.heap.size = g at *
  generalize w.alloc (.cells #[.slice none 0 0] 64) = w1 at *
  go_loopw [5] (fun i wr => ∃ k : Nat, k ≤ n ∧ i = .int .i64 k ∧ (∃ v, RTab wr g g v (TabM.new k)) ∧ Upd [] w wr) (fun i _ => n - (intOf i).toNat)
  case atStart => exact ⟨0, Nat.zero_le _, rfl, ⟨_, hst⟩, hU⟩
  case round =>
    clear hst hU
    obtain ⟨k, hk, rfl, ⟨v, hR⟩, hU⟩ := hrel
    by_cases hlt : k < n
    · obtain ⟨ao, co, rfl⟩ := hR.shape
      rw [TabM.new_length] at hR
      obtain ⟨xs, hown, hL⟩ := hR.ex
      rw [TabM.new_length] at hown
      have b0 := hR.blk.cell (i := 0) rfl
      have hN := blk_new' wr 66 #[.bool false, .bool false, .int .i64 1, .int .i64 0, .int .i64 0]
      have hkr := (Upd.refl [] wr).alloc (.cells #[.bool false, .bool false, .int .i64 1, .int .i64 0, .int .i64 0] 66)
      have hown2 := hown.upd hkr (by simp)
      have hblk2 := hR.blk.upd hkr (by simp)
      have hU2 := hU.trans_same hkr
      have hgl := hR.lt
      have hap := hR.ap
      go_wp2_with (with_reducible refine wpList_append_gen rfl (.tmp 23) (.tmp 25) 62 62 rfl 66 (.agg #[.bool false, .bool false, .int .i64 0, .int .i64 0, .int .i64 0]) 5 32 Try.underlying62 Try.infoEntR rfl g ?a1 (.slice ao k co) k xs rfl ?a2 _ 1 [.bool false, .bool false, .int .i64 1, .int .i64 0, .int .i64 0] rfl ?a3 ?a4 ?a5 ?a6)
      case a1 => omega
      case a3 => exact Src.ofSlice _ Try.underlying62 ⟨_, 0, none⟩ _ _ _ (by simp) (fun j u hj => by rw [addr_add, Nat.zero_add]; exact hN.cell hj) (by intro u hu; simp at hu; rcases hu with rfl | rfl | rfl <;> rfl)
      case a4 => unfold maxLen; omega
      case a5 => omega
      case a6 =>
        intro v' wa hown' hUa hblk hnil' hoff
        have hga : g ∉ (Value.slice ao k co).ownBlock.toList := fun hq => hap g (mem_ownD hq) rfl
        have hblk3 := hblk2.upd hUa hga
        have c0 := hblk3.cell (i := 0) rfl
        have cf := hblk3.frozen 0
        have hUb := hU2.trans (fun q hq => Or.inr (by have := (hown.lt q (mem_ownD hq)).1; omega)) hUa
        have hap' : ∀ q, v'.ownBlock = some q → q ≠ g := fun q hq => by
          rcases hblk q hq with h' | h'
          · exact hap q h'
          · omega
        obtain ⟨ao', co', rfl⟩ := hown'.shape
        clear hown2 hblk2 hU2 hN hkr hR hU hown b0 hoff hnil' hblk
        go_wp2_with fail
        go_roundw
        case rel =>
          refine ⟨k + 1, hlt, by go_num, ⟨.slice ao' (k + 1) co', ?_⟩, hUb.setCell (a := ⟨g, 0, none⟩) (Or.inr (by show w.heap.size ≤ g; omega)) _⟩
          refine ⟨(hblk3.set 0 _).eq rfl, ⟨xs ++ [.bool false, .bool false, .int .i64 1, .int .i64 0, .int .i64 0], ?_, ?_⟩, hap', Nat.le_refl _, by rw [TabM.new_length]; omega, TabM.new_fine _⟩
          · rw [TabM.new_length]
            exact hown'.upd ((Upd.refl [g] _).setCell (Or.inl (by simp)) _) (fun q hq => by simp; exact hap' q hq)
          · rw [TabM.new_succ]
            have hq := lay_snoc (e := ⟨1, 0, 0, 0⟩) hL
            rw [TabM.new_length] at hq
            exact hq
        case measure => simp [intOf]; omega
    · obtain rfl : k = n := by omega
      go_wp2_with fail
      go_ret2
      exact ⟨v, by rw [hg]; rfl, by rw [hg]; exact hR, hU⟩

end Go.Proofs.Ytfejlokinopjbaa
