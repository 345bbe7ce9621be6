/- The walks of the document's port's Take, Peek, Ended, Used; of its Event's data and room. -/
import Derived.Test.YtnbhgfnjnccakaaRP6
import Derived.Test.YtnbhgfnjnccakaaPort11
namespace Go.Proofs.Ytnbhgfnjnccakaa
open Go Go.RowKit
set_option linter.unusedVariables false

/-! ### The document's ring's calls, by its bytes alone -/
section
variable {w : World} {base b size : Nat} {v : Value} {xs : List UInt8}
def RRPost (w : World) (base b : Nat) (v : Value) (size : Nat) (xs' : List UInt8) (w' : World) : Prop :=
  ∃ v', RefHas w' base b v' size xs' ∧ (∀ q, v'.ownBlock = some q → v.ownBlock = some q ∨ w.heap.size ≤ q) ∧ Upd (b :: v.ownBlock.toList) w w'
theorem rr_put {u : Value} {bs : List UInt8} (h : RefHas w base b v size xs) (hu : Rd w u bs) (hap : bs ≠ [] → ∀ q, u.ownBlock = some q → q ≠ b ∧ v.ownBlock ≠ some q) :
    Calls Try.prog 83 #[.pointer (some ⟨b, 0, none⟩), u] w fun e w' => e = .returned (.int .i64 (putK size xs bs : Nat)) ∧ RRPost w base b v size (xs ++ bs.take (putK size xs bs)) w' := by
  obtain ⟨r, h1, rfl, rfl⟩ := h
  refine (ref_put h1 hu hap).mono ?_
  rintro e w' ⟨rfl, v', h2, h3, h4⟩
  exact ⟨rfl, v', ⟨_, h2, rfl, rfl⟩, h3, h4⟩
def RRTakePost (w : World) (base b : Nat) (v : Value) (size : Nat) (xs' ys : List UInt8) (e : Ending) (w' : World) : Prop :=
  ∃ u, e = .returned u ∧ GivenB w w' u ys ∧ RRPost w base b v size xs' w'
theorem rr_take (n : Int) (h : RefHas w base b v size xs) : Calls Try.prog 91 #[.pointer (some ⟨b, 0, none⟩), .int .i64 n] w (RRTakePost w base b v size (xs.drop n.toNat) (xs.take n.toNat)) := by
  obtain ⟨r, h1, rfl, rfl⟩ := h
  rw [← take_cnt, ← drop_cnt]
  refine (ref_take n h1).mono ?_
  rintro e w' ⟨u, v', rfl, h2, h3, h4, h5⟩
  exact ⟨u, rfl, h2, v', ⟨_, h3, rfl, rfl⟩, fun q hq => Or.inr (h4 q hq), h5.mono (by simp)⟩
theorem rr_peek (n : Int) (h : RefHas w base b v size xs) : Calls Try.prog 92 #[.pointer (some ⟨b, 0, none⟩), .int .i64 n] w fun e w' => ∃ u, e = .returned u ∧ GivenB w w' u (xs.take n.toNat) ∧ Upd [] w w' := by
  obtain ⟨r, h1, rfl, rfl⟩ := h
  rw [← take_cnt]
  refine (ref_peek n h1).mono ?_
  rintro e w' ⟨u, rfl, h2, h3⟩
  exact ⟨u, rfl, h2, h3⟩
/-- Where its bytes lie. -/
theorem RefHas.row (h : RefHas w base b v size xs) : ∃ a c, v = .slice a xs.length c ∧ w.cell? ⟨b, 1, none⟩ = some (.slice a xs.length c) := by
  obtain ⟨r, h1, rfl, rfl⟩ := h
  obtain ⟨a, c, hv⟩ := h1.own.shape
  have := h1.blk.cell (i := 1) rfl
  rw [hv] at this
  exact ⟨a, c, hv, this⟩
end

section
variable {w w1 : World} {base c : Nat} {L : XLay} {p : PortM}

def RTakeP (w : World) (base c : Nat) (L : XLay) (p' : PortM) (ys : List UInt8) (e : Ending) (w' : World) : Prop :=
  ∃ v, e = .returned v ∧ GivenB w w' v ys ∧ RPost w base c L p' w'

theorem rp_take (k n : Int) (h : RPortAt w base c L p) : Calls Try.prog 67 #[.pointer (some ⟨c, 0, none⟩), .int .i64 k, .int .i64 n] w (RTakeP w base c L (p.taken k n) (p.takeB k n)) := by
  rcases p.at?_cases k with ⟨hn, hk⟩ | ⟨i, x, rfl, hx, hax, hil⟩
  · have e1 : p.takeB k n = [] := by unfold PortM.takeB; rw [hn]
    have e2 : p.taken k n = p := by unfold PortM.taken; rw [hn]
    have hf := rp_stream_f h hn
    go_enter Try.func67, Try.ntmps67
    go_wp2_with fail
    refine hf.mono ?_
    rintro e w' ⟨rfl, rfl⟩
    go_wp2_with fail
    go_ret
    exact ⟨_, rfl, by rw [e1]; exact own_nil _ _ _ _, by rw [e2]; exact RPost.refl h⟩
  · have e1 : p.takeB i n = x.xs.take n.toNat := by unfold PortM.takeB; rw [hax]
    have e2 : p.taken i n = p.setEnd i { x with xs := x.xs.drop n.toNat } := by unfold PortM.taken; rw [hax, Int.toNat_natCast]
    have hf := rp_stream_t h hx
    obtain ⟨g, off, cap, hv, hg, c0, c1, c2, c3, c4, c5, hfz⟩ := h.cells hx
    have b2 := h.blk.cell (i := 2) rfl
    rw [hv] at b2
    have hsm := h.small
    have eadd : (⟨g, off, none⟩ : Addr).add (i * 6) = ⟨g, off + i * 6, none⟩ := addr_add _ _ _
    have hr := rr_take n (h.rings i x hx)
    clear hfz c0 c1 c2 c3 c4
    go_enter Try.func67, Try.ntmps67
    go_wp2_with fail
    refine hf.mono ?_
    rintro e w' ⟨rfl, rfl⟩
    go_wp2_with fail
    refine hr.mono ?_
    rintro e w1 ⟨u, rfl, hG, v', hR, hbk, hU⟩
    have pp := h.ring hx hU hR hbk
    go_wp2_with fail
    go_ret
    exact ⟨_, rfl, by rw [e1]; exact hG, by rw [e2]; exact pp⟩

theorem rp_peek (k n : Int) (h : RPortAt w base c L p) : Calls Try.prog 68 #[.pointer (some ⟨c, 0, none⟩), .int .i64 k, .int .i64 n] w fun e w' => ∃ v, e = .returned v ∧ GivenB w w' v (p.takeB k n) ∧ Upd [] w w' := by
  rcases p.at?_cases k with ⟨hn, hk⟩ | ⟨i, x, rfl, hx, hax, hil⟩
  · have e1 : p.takeB k n = [] := by unfold PortM.takeB; rw [hn]
    have hf := rp_stream_f h hn
    go_enter Try.func68, Try.ntmps68
    go_wp2_with fail
    refine hf.mono ?_
    rintro e w' ⟨rfl, rfl⟩
    go_wp2_with fail
    go_ret
    exact ⟨_, rfl, by rw [e1]; exact own_nil _ _ _ _, Upd.refl _ _⟩
  · have e1 : p.takeB i n = x.xs.take n.toNat := by unfold PortM.takeB; rw [hax]
    have hf := rp_stream_t h hx
    obtain ⟨g, off, cap, hv, hg, c0, c1, c2, c3, c4, c5, hfz⟩ := h.cells hx
    have b2 := h.blk.cell (i := 2) rfl
    rw [hv] at b2
    have hsm := h.small
    have eadd : (⟨g, off, none⟩ : Addr).add (i * 6) = ⟨g, off + i * 6, none⟩ := addr_add _ _ _
    have hr := rr_peek n (h.rings i x hx)
    clear hfz c0 c1 c2 c3 c4
    go_enter Try.func68, Try.ntmps68
    go_wp2_with fail
    refine hf.mono ?_
    rintro e w' ⟨rfl, rfl⟩
    go_wp2_with fail
    refine hr.mono ?_
    rintro e w1 ⟨u, rfl, hG, hU⟩
    go_wp2_with fail
    go_ret
    exact ⟨_, rfl, by rw [e1]; exact hG, hU⟩

theorem rp_ended (k : Int) (h : RPortAt w base c L p) : Calls Try.prog 79 #[.pointer (some ⟨c, 0, none⟩), .int .i64 k] w fun e w' => e = .returned (.bool (p.ended k)) ∧ w = w' := by
  have hl := rp_last k h
  rcases Bool.eq_false_or_eq_true (p.last k) with hla | hla
  · rw [hla] at hl
    rcases p.at?_cases k with ⟨hn, hk⟩ | ⟨i, x, rfl, hx, hax, hil⟩
    · unfold PortM.last at hla; rw [hn] at hla; cases hla
    · have e2 : p.ended i = (x.xs.length == 0) := by unfold PortM.ended; rw [hla, Bool.true_and]; unfold PortM.waiting; rw [hax]
      rw [e2]
      obtain ⟨g, off, cap, hv, hg, c0, c1, c2, c3, c4, c5, hfz⟩ := h.cells hx
      have b2 := h.blk.cell (i := 2) rfl
      rw [hv] at b2
      have hsm := h.small
      have eadd : (⟨g, off, none⟩ : Addr).add (i * 6) = ⟨g, off + i * 6, none⟩ := addr_add _ _ _
      obtain ⟨ra, rc, hrv, hrow⟩ := (h.rings i x hx).row
      clear hfz c0 c1 c2 c3 c4
      by_cases hz : x.xs.length = 0
      · have e3 : (x.xs.length == 0) = true := by simpa using hz
        rw [e3]
        rw [hz] at hrow
        go_enter Try.func79, Try.ntmps79
        go_wp2_with fail
        refine hl.mono ?_
        rintro e w' ⟨rfl, rfl⟩
        go_wp2_with fail
        go_ret
        exact ⟨rfl, rfl⟩
      · have e3 : (x.xs.length == 0) = false := by simpa using hz
        have e4 : ((x.xs.length : Int) == 0) = false := by simp; exact fun h => hz (by rw [h]; rfl)
        rw [e3]
        generalize x.xs.length = n at *
        go_enter Try.func79, Try.ntmps79
        go_wp2_with fail
        refine hl.mono ?_
        rintro e w' ⟨rfl, rfl⟩
        go_wp2_with fail
        go_ret
        exact ⟨rfl, rfl⟩
  · rw [hla] at hl
    have e2 : p.ended k = false := by unfold PortM.ended; rw [hla]; rfl
    rw [e2]
    go_enter Try.func79, Try.ntmps79
    go_wp2_with fail
    refine hl.mono ?_
    rintro e w' ⟨rfl, rfl⟩
    go_wp2_with fail
    go_ret
    exact ⟨rfl, rfl⟩
end

end Go.Proofs.Ytnbhgfnjnccakaa
