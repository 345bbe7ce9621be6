/- The walks of the document's port's reading calls, and of fresh, Outs, Accept. -/
import Derived.Test.YtnbhgfnjnccakaaRP1
import Derived.Test.YtnbhgfnjnccakaaRelay2
namespace Go.Proofs.Ytnbhgfnjnccakaa
open Go Go.RowKit
set_option linter.unusedVariables false

theorem RefAt.mono {w : World} {base base' c : Nat} {v : Value} {r : RingM} (h : RefAt w base c v r) (hb : base' ≤ base) : RefAt w base' c v r :=
  { h with own := h.own.mono hb, base := Nat.le_trans hb h.base }

section
variable {w w1 : World} {base c : Nat} {L : XLay} {p : PortM}

theorem RPortAt.cellsAt {i g off cap n : Nat} {e : EndM} (h : RPortAt w base c L p) (hi : p.ends[i]? = some e) (hv : L.ve = .slice (some ⟨g, off, none⟩) n cap) :
    w.cell? ⟨g, off + i * 6, none⟩ = some (.int .i64 e.st) ∧ w.cell? ⟨g, off + i * 6 + 1, none⟩ = some (.int .i64 e.room) ∧
      w.cell? ⟨g, off + i * 6 + 2, none⟩ = some (.bool e.fresh) ∧ w.cell? ⟨g, off + i * 6 + 3, none⟩ = some (.bool e.theirs) ∧ w.cell? ⟨g, off + i * 6 + 4, none⟩ = some (.bool e.ours) ∧ w.cell? ⟨g, off + i * 6 + 5, none⟩ = some (.pointer (some ⟨L.rb i, 0, none⟩)) ∧ ∀ j, w.frozen? ⟨g, j, none⟩ = false := by
  obtain ⟨g', off', cap', hv', _, r⟩ := h.cells hi
  rw [hv] at hv'
  injection hv' with e1 _ _
  injection e1 with e1
  injection e1 with e1 e2
  subst e1 e2
  exact r

theorem there_t {i : Nat} {x : EndM} (h : p.ends[i]? = some x) : p.there i = true := by
  unfold PortM.there; rw [PortM.at?_nat, h]; rfl
theorem there_f {k : Int} (h : p.at? k = none) : p.there k = false := by
  unfold PortM.there; rw [h]; rfl

theorem rp_stream (k : Int) (h : RPortAt w base c L p) : Calls Try.prog 81 #[.pointer (some ⟨c, 0, none⟩), .int .i64 k] w fun e w' => e = .returned (.bool (p.there k)) ∧ w = w' := by
  have b2 := h.blk.cell (i := 2) rfl
  obtain ⟨ao, co, hv⟩ := h.veShape
  rw [hv] at b2
  rcases p.at?_cases k with ⟨hn, hk⟩ | ⟨i, x, rfl, hx, hax, hil⟩
  · rw [there_f hn]
    rcases hk with hk | hk
    · have hk0 : ¬ 0 ≤ k := by omega
      go_enter Try.func81, Try.ntmps81
      go_wp2_with fail
      go_ret
      exact ⟨rfl, rfl⟩
    · have hk0 : 0 ≤ k := by omega
      have hk1 : ¬ k < (p.ends.length : Int) := by omega
      go_enter Try.func81, Try.ntmps81
      go_wp2_with fail
      go_ret
      exact ⟨by simp <;> omega, rfl⟩
  · rw [there_t hx]
    have hk1 : (i : Int) < (p.ends.length : Int) := by omega
    go_enter Try.func81, Try.ntmps81
    go_wp2_with fail
    go_ret
    exact ⟨by simp <;> omega, rfl⟩

theorem rp_client_no {k : Int} (h : RPortAt w base c L p) (hn : p.at? k = none ∨ (p.clients : Int) ≤ k) : Calls Try.prog 82 #[.pointer (some ⟨c, 0, none⟩), .int .i64 k] w fun e w' => e = .returned (.bool false) ∧ w = w' := by
  have b0 := h.blk.cell (i := 0) rfl
  have hs := rp_stream k h
  rcases p.at?_cases k with ⟨hn, hk⟩ | ⟨i, x, rfl, hx, hax, hil⟩
  · rw [there_f hn] at hs
    go_enter Try.func82, Try.ntmps82
    go_wp2_with fail
    refine hs.mono ?_
    rintro e w' ⟨rfl, rfl⟩
    go_wp2_with fail
    go_ret
    exact ⟨rfl, rfl⟩
  · rw [there_t hx] at hs
    have hk1 : ¬ (i : Int) < (p.clients : Int) := by
      rcases hn with hn | hn
      · rw [hax] at hn; cases hn
      · omega
    go_enter Try.func82, Try.ntmps82
    go_wp2_with fail
    refine hs.mono ?_
    rintro e w' ⟨rfl, rfl⟩
    go_wp2_with fail
    go_ret
    exact ⟨by simp <;> omega, rfl⟩
theorem rp_client_yes {i : Nat} {x : EndM} (h : RPortAt w base c L p) (hx : p.ends[i]? = some x) (hc : i < p.clients) : Calls Try.prog 82 #[.pointer (some ⟨c, 0, none⟩), .int .i64 i] w fun e w' => e = .returned (.bool true) ∧ w = w' := by
  have b0 := h.blk.cell (i := 0) rfl
  have hs := rp_stream i h
  rw [there_t hx] at hs
  have hk1 : (i : Int) < (p.clients : Int) := by omega
  go_enter Try.func82, Try.ntmps82
  go_wp2_with fail
  refine hs.mono ?_
  rintro e w' ⟨rfl, rfl⟩
  go_wp2_with fail
  go_ret
  exact ⟨by simp <;> omega, rfl⟩

theorem rp_server_no {k : Int} (h : RPortAt w base c L p) (hn : p.at? k = none ∨ k < (p.clients : Int)) : Calls Try.prog 84 #[.pointer (some ⟨c, 0, none⟩), .int .i64 k] w fun e w' => e = .returned (.bool false) ∧ w = w' := by
  have b0 := h.blk.cell (i := 0) rfl
  have hs := rp_stream k h
  rcases p.at?_cases k with ⟨hn, hk⟩ | ⟨i, x, rfl, hx, hax, hil⟩
  · rw [there_f hn] at hs
    go_enter Try.func84, Try.ntmps84
    go_wp2_with fail
    refine hs.mono ?_
    rintro e w' ⟨rfl, rfl⟩
    go_wp2_with fail
    go_ret
    exact ⟨rfl, rfl⟩
  · rw [there_t hx] at hs
    have hk1 : ¬ (p.clients : Int) ≤ (i : Int) := by
      rcases hn with hn | hn
      · rw [hax] at hn; cases hn
      · omega
    go_enter Try.func84, Try.ntmps84
    go_wp2_with fail
    refine hs.mono ?_
    rintro e w' ⟨rfl, rfl⟩
    go_wp2_with fail
    go_ret
    exact ⟨by simp <;> omega, rfl⟩
theorem rp_server_yes {i : Nat} {x : EndM} (h : RPortAt w base c L p) (hx : p.ends[i]? = some x) (hc : p.clients ≤ i) : Calls Try.prog 84 #[.pointer (some ⟨c, 0, none⟩), .int .i64 i] w fun e w' => e = .returned (.bool true) ∧ w = w' := by
  have b0 := h.blk.cell (i := 0) rfl
  have hs := rp_stream i h
  rw [there_t hx] at hs
  have hk1 : (p.clients : Int) ≤ (i : Int) := by omega
  go_enter Try.func84, Try.ntmps84
  go_wp2_with fail
  refine hs.mono ?_
  rintro e w' ⟨rfl, rfl⟩
  go_wp2_with fail
  go_ret
  exact ⟨by simp <;> omega, rfl⟩

/-! ### fresh -/

/-- A new endpoint as one value, and its ring. -/
def FreshPost (w : World) (base st size : Nat) (e : Ending) (w' : World) : Prop :=
  ∃ B, e = .returned (.agg #[.int .i64 st, .int .i64 0, .bool false, .bool false, .bool false, .pointer (some ⟨B, 0, none⟩)]) ∧ w.heap.size ≤ B ∧ RefHas w' base B (.slice none 0 0) size [] ∧ Upd [] w w'

theorem rp_fresh_at (st size : Nat) (hb : base ≤ w.heap.size) (b1 : w.cell? ⟨c, 1, none⟩ = some (.int .i64 size)) (hz : size ≤ 65536) : Calls Try.prog 65 #[.pointer (some ⟨c, 0, none⟩), .int .i64 st] w (FreshPost w base st size) := by
  have hX := blk_new' w 120 #[.int .i64 0, .int .i64 0, .bool false, .bool false, .bool false, .pointer none]
  have k1 : Upd [] w (w.alloc (.cells #[.int .i64 0, .int .i64 0, .bool false, .bool false, .bool false, .pointer none] 120)) := (Upd.refl _ _).alloc _
  have b1' : (w.alloc (.cells #[.int .i64 0, .int .i64 0, .bool false, .bool false, .bool false, .pointer none] 120)).cell? ⟨c, 1, none⟩ = some (.int .i64 size) := by
    rw [k1.cell (World.block_lt_of_cell? _ _ b1) (by simp)]; exact b1
  have hR := ref_new (size : Int) (w.alloc (.cells #[.int .i64 0, .int .i64 0, .bool false, .bool false, .bool false, .pointer none] 120)) (by omega) (by omega)
  have hs1 := k1.size
  have hXl := hX.lt
  go_enter Try.func65, Try.ntmps65
  go_wp2_with fail
  clear b1 b1'
  generalize hXe : w.heap.size = X at *
  generalize w.alloc (.cells #[.int .i64 0, .int .i64 0, .bool false, .bool false, .bool false, .pointer none] 120) = w1 at *
  refine hR.mono ?_
  rintro e w2 ⟨rfl, h1, hU⟩
  have hX2 := hX.upd hU (by simp)
  have hF2 := hX2.frozen
  have z0 := hX2.cell (i := 0) rfl
  have z1 := hX2.cell (i := 1) rfl
  have z2 := hX2.cell (i := 2) rfl
  have z3 := hX2.cell (i := 3) rfl
  have z4 := hX2.cell (i := 4) rfl
  have z5 := hX2.cell (i := 5) rfl
  have f0 := hF2 0
  have f1 := hF2 1
  have f2 := hF2 2
  have f3 := hF2 3
  have f4 := hF2 4
  have f5 := hF2 5
  have hset := ((((((hX2.set 0 (.int .i64 st)).set 1 (.int .i64 0)).set 2 (.bool false)).set 3 (.bool false)).set 4 (.bool false)).set 5 (.pointer (some ⟨w1.heap.size, 0, none⟩)))
  have hUs : Upd [X] w2 ((((((w2.setCell ⟨X, 0, none⟩ (.int .i64 st)).setCell ⟨X, 1, none⟩ (.int .i64 0)).setCell ⟨X, 2, none⟩ (.bool false)).setCell ⟨X, 3, none⟩ (.bool false)).setCell ⟨X, 4, none⟩ (.bool false)).setCell ⟨X, 5, none⟩ (.pointer (some ⟨w1.heap.size, 0, none⟩))) :=
    ((((((Upd.refl _ _).setCell (a := ⟨X, 0, none⟩) (Or.inl (by simp)) _).setCell (a := ⟨X, 1, none⟩) (Or.inl (by simp)) _).setCell (a := ⟨X, 2, none⟩) (Or.inl (by simp)) _).setCell (a := ⟨X, 3, none⟩) (Or.inl (by simp)) _).setCell (a := ⟨X, 4, none⟩) (Or.inl (by simp)) _).setCell (a := ⟨X, 5, none⟩) (Or.inl (by simp)) _
  clear hF2
  go_wp2_with fail
  clear f0 f1 f2 f3 f4 f5 z0 z1 z2 z3 z4 z5
  generalize ((((((w2.setCell ⟨X, 0, none⟩ (.int .i64 st)).setCell ⟨X, 1, none⟩ (.int .i64 0)).setCell ⟨X, 2, none⟩ (.bool false)).setCell ⟨X, 3, none⟩ (.bool false)).setCell ⟨X, 4, none⟩ (.bool false)).setCell ⟨X, 5, none⟩ (.pointer (some ⟨w1.heap.size, 0, none⟩))) = w3 at *
  have y0 := hset.cell (i := 0) rfl
  have y1 := hset.cell (i := 1) rfl
  have y2 := hset.cell (i := 2) rfl
  have y3 := hset.cell (i := 3) rfl
  have y4 := hset.cell (i := 4) rfl
  have y5 := hset.cell (i := 5) rfl
  refine bodyPost_ret (v := .agg #[.int .i64 st, .int .i64 0, .bool false, .bool false, .bool false, .pointer (some ⟨w1.heap.size, 0, none⟩)]) (by simp [results, Try.results65, go_sem, y0, y1, y2, y3, y4, y5]) rfl ?_
  have hR3 : RefAt w3 base w1.heap.size (.slice none 0 0) (RingM.new size) := (h1.mono (by omega)).upd hUs (by simp; omega) (fun q hq => by cases hq)
  exact ⟨_, rfl, by omega, ⟨_, hR3, rfl, by simp [RingM.new]⟩, (k1.trans_same hU).trans (fun q hq => Or.inr (by simp at hq; omega)) hUs⟩
theorem rp_fresh (st : Nat) (h : RPortAt w base c L p) : Calls Try.prog 65 #[.pointer (some ⟨c, 0, none⟩), .int .i64 st] w (FreshPost w base st p.size) :=
  rp_fresh_at st p.size h.bsz (h.blk.cell (i := 1) rfl) h.sz

/-! ### Room, Last, Ended -/

theorem rp_room (k : Int) (h : RPortAt w base c L p) : Calls Try.prog 80 #[.pointer (some ⟨c, 0, none⟩), .int .i64 k] w fun e w' => e = .returned (.int .i64 (p.roomOf k : Nat)) ∧ w = w' := by
  have hs := rp_stream k h
  rcases p.at?_cases k with ⟨hn, hk⟩ | ⟨i, x, rfl, hx, hax, hil⟩
  · rw [there_f hn] at hs
    have e2 : p.roomOf k = 0 := by unfold PortM.roomOf; rw [hn]
    rw [e2]
    go_enter Try.func80, Try.ntmps80
    go_wp2_with fail
    refine hs.mono ?_
    rintro e w' ⟨rfl, rfl⟩
    go_wp2_with fail
    go_ret
    exact ⟨rfl, rfl⟩
  · rw [there_t hx] at hs
    have b2 := h.blk.cell (i := 2) rfl
    have e2 : p.roomOf i = x.roomN := by unfold PortM.roomOf; rw [hax]
    rw [e2]
    obtain ⟨g, off, cap, hv, hg, c0, c1, c2, c3, c4, c5, hfz⟩ := h.cells hx
    rw [hv] at b2
    have hsm := h.small
    have eadd : (⟨g, off, none⟩ : Addr).add (i * 6) = ⟨g, off + i * 6, none⟩ := addr_add _ _ _
    clear hfz
    by_cases h1 : x.st = 1
    · rw [h1] at c0
      rcases Bool.eq_false_or_eq_true x.ours with h2 | h2
      · have e3 : x.roomN = 0 := by unfold EndM.roomN; rw [if_neg (by rw [h2]; simp)]
        rw [h2] at c4
        rw [e3]
        go_enter Try.func80, Try.ntmps80
        go_wp2_with fail
        refine hs.mono ?_
        rintro e w' ⟨rfl, rfl⟩
        go_wp2_with fail
        go_ret
        exact ⟨rfl, rfl⟩
      · have e3 : x.roomN = x.room := by unfold EndM.roomN; rw [if_pos ⟨h1, h2⟩]
        rw [h2] at c4
        rw [e3]
        go_enter Try.func80, Try.ntmps80
        go_wp2_with fail
        refine hs.mono ?_
        rintro e w' ⟨rfl, rfl⟩
        go_wp2_with fail
        go_ret
        exact ⟨rfl, rfl⟩
    · have h1' : ¬ (x.st : Int) = 1 := by omega
      have h1b : ((x.st : Int) == 1) = false := by simp; omega
      have e3 : x.roomN = 0 := by unfold EndM.roomN; rw [if_neg (fun hh => h1 hh.1)]
      rw [e3]
      go_enter Try.func80, Try.ntmps80
      go_wp2_with fail
      refine hs.mono ?_
      rintro e w' ⟨rfl, rfl⟩
      go_wp2_with fail
      go_ret
      exact ⟨rfl, rfl⟩

theorem rp_last (k : Int) (h : RPortAt w base c L p) : Calls Try.prog 85 #[.pointer (some ⟨c, 0, none⟩), .int .i64 k] w fun e w' => e = .returned (.bool (p.last k)) ∧ w = w' := by
  have hs := rp_stream k h
  rcases p.at?_cases k with ⟨hn, hk⟩ | ⟨i, x, rfl, hx, hax, hil⟩
  · rw [there_f hn] at hs
    have e2 : p.last k = false := by unfold PortM.last; rw [hn]
    rw [e2]
    go_enter Try.func85, Try.ntmps85
    go_wp2_with fail
    refine hs.mono ?_
    rintro e w' ⟨rfl, rfl⟩
    go_wp2_with fail
    go_ret
    exact ⟨rfl, rfl⟩
  · rw [there_t hx] at hs
    have b2 := h.blk.cell (i := 2) rfl
    have e2 : p.last i = (x.st == 1 && x.theirs) := by unfold PortM.last; rw [hax]
    rw [e2]
    obtain ⟨g, off, cap, hv, hg, c0, c1, c2, c3, c4, c5, hfz⟩ := h.cells hx
    rw [hv] at b2
    have hsm := h.small
    have eadd : (⟨g, off, none⟩ : Addr).add (i * 6) = ⟨g, off + i * 6, none⟩ := addr_add _ _ _
    clear hfz
    by_cases h1 : x.st = 1
    · rw [h1] at c0
      have e3 : (x.st == 1 && x.theirs) = x.theirs := by rw [h1]; rfl
      rw [e3]
      go_enter Try.func85, Try.ntmps85
      go_wp2_with fail
      refine hs.mono ?_
      rintro e w' ⟨rfl, rfl⟩
      go_wp2_with fail
      go_ret
      exact ⟨rfl, rfl⟩
    · have h1' : ¬ (x.st : Int) = 1 := by omega
      have h1b : ((x.st : Int) == 1) = false := by simp; omega
      have e3 : (x.st == 1 && x.theirs) = false := by simp [h1]
      rw [e3]
      go_enter Try.func85, Try.ntmps85
      go_wp2_with fail
      refine hs.mono ?_
      rintro e w' ⟨rfl, rfl⟩
      go_wp2_with fail
      go_ret
      exact ⟨rfl, rfl⟩

/-! ### Outs -/

def ROutsPost (w : World) (base c : Nat) (L : XLay) (p : PortM) (e : Ending) (w' : World) : Prop :=
  ∃ v, e = .returned v ∧ Own w' base 51 10 v p.outs.length (outsC p.outs) ∧ (∀ q, v.ownBlock = some q → L.has base 3 q) ∧ RPost w base c L { p with outs := [] } w'

set_option maxHeartbeats 1000000 in
set_option maxRecDepth 100000 in
theorem rp_outs (h : RPortAt w base c L p) : Calls Try.prog 47 #[.pointer (some ⟨c, 0, none⟩)] w (ROutsPost w base c L p) := by
  have b4 := h.blk.cell (i := 4) rfl
  have f4 := h.blk.frozen 4
  have hown := h.outs
  have hto := h.to
  have hR := h.reout (w1 := w) (vo' := .slice none 0 0) (outs' := []) (Upd.refl _ _) (own_nil _ _ _ _) (fun q hq => by cases hq) rfl
  have hob : ∀ q, L.vo.ownBlock = some q → q ∉ [c] := fun q hq hq' => by simp at hq'; exact (h.to q hq).ne h.tb (by decide) hq'
  obtain ⟨ao, co, hvo⟩ := h.outs.shape
  rw [hvo] at b4 hown hto hob
  go_enter Try.func47, Try.ntmps47
  go_wp2_with fail
  go_ret
  exact ⟨_, rfl, hown.upd ((Upd.refl [c] _).setCell (Or.inl (by simp)) _) hob, hto, _, hR.1, hR.2.1, hR.2.2⟩

/-! ### Accept -/

set_option maxHeartbeats 1000000 in
set_option maxRecDepth 100000 in
theorem rp_accept (h : RPortAt w base c L p) : Calls Try.prog 66 #[.pointer (some ⟨c, 0, none⟩)] w fun e w' =>
    e = .returned (.tuple #[.int .i64 p.acceptA.1, .int .i64 p.acceptA.2]) ∧ RPost w base c L p.accepted w' := by
  have b2 := h.blk.cell (i := 2) rfl
  have hsm := h.small
  obtain ⟨ao, co, hvl⟩ := h.veShape
  rw [hvl] at b2
  go_enter Try.func66, Try.ntmps66
  go_wp2_with fail
  go_loopw [4] (fun i wr => ∃ k : Nat, k ≤ p.ends.length ∧ i = .int .i64 k ∧ (∀ j x, j < k → p.ends[j]? = some x → x.fresh = false) ∧ wr = w) (fun i _ => p.ends.length - (intOf i).toNat)
  case atStart => exact ⟨0, Nat.zero_le _, rfl, fun j x hj => absurd hj (Nat.not_lt_zero _), rfl⟩
  case round =>
    obtain ⟨k, hk, rfl, hall, rfl⟩ := hrel
    by_cases hlt : k < p.ends.length
    · obtain ⟨x, hx⟩ : ∃ x, p.ends[k]? = some x := ⟨p.ends[k], List.getElem?_eq_getElem hlt⟩
      obtain ⟨g, off, cap, hv, hg, c0, c1, c2, c3, c4, c5, hfz⟩ := h.cells hx
      rw [hvl] at hv
      cases hv
      have eadd : (⟨g, off, none⟩ : Addr).add (k * 6) = ⟨g, off + k * 6, none⟩ := addr_add _ _ _
      have hfx := h.fine x (List.mem_of_getElem? hx)
      rcases Bool.eq_false_or_eq_true x.fresh with hf | hf
      · have hfr : p.newIx = k := by
          unfold PortM.newIx
          obtain ⟨hk1, hk2⟩ := List.getElem?_eq_some_iff.1 hx
          refine (List.findIdx_eq hk1).2 ⟨by rw [hk2, hf], fun j hj => ?_⟩
          exact hall j p.ends[j] hj (List.getElem?_eq_getElem (by omega))
        have hA : p.acceptA = (k, 0) := by unfold PortM.acceptA; rw [hfr, if_pos hlt]
        have hT : p.accepted = p.setEnd k { x with fresh := false } := by unfold PortM.accepted; rw [hfr, hx]
        have f2 := hfz (off + k * 6 + 2)
        have pp := h.write_post (j := 2) (e' := { x with fresh := false }) (u := .bool false) hx hvl (by decide) rfl rfl hfx
        rw [hf] at c2
        clear hall hfz
        go_wp2_with fail
        go_ret2
        exact ⟨by rw [hA]; rfl, by rw [hT]; exact pp⟩
      · rw [hf] at c2
        clear hfz
        go_wp2_with fail
        go_roundw
        case rel => exact ⟨k + 1, hlt, by go_num, fun j y hj hy => by
          by_cases hjk : j = k
          · subst hjk; rw [hx] at hy; cases hy; exact hf
          · exact hall j y (by omega) hy, by first | rfl | trivial⟩
        case measure => simp [intOf]; omega
    · obtain rfl : k = p.ends.length := by omega
      have hfr : p.newIx = p.ends.length := by
        unfold PortM.newIx
        refine List.findIdx_eq_length.2 (fun x hx => ?_)
        obtain ⟨j, hj, rfl⟩ := List.mem_iff_getElem.1 hx
        exact hall j p.ends[j] hj (List.getElem?_eq_getElem hj)
      have hA : p.acceptA = (0, 5) := by unfold PortM.acceptA; rw [hfr, if_neg (Nat.lt_irrefl _)]
      have hT : p.accepted = p := by unfold PortM.accepted; rw [hfr, List.getElem?_eq_none (Nat.le_refl _)]
      clear hall
      go_wp2_with fail
      go_ret2
      exact ⟨by rw [hA]; rfl, by rw [hT]; exact RPost.refl h⟩
end

end Go.Proofs.Ytnbhgfnjnccakaa
