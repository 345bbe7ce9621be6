/- The walks of the port's reading calls: is, stream, find, State, Waiting, Last, Ended, Room. -/
import Derived.Test.YtnbhgfnjnccakaaRing5
import Derived.Test.YtnbhgfnjnccakaaPortSpec
import Derived.Test.YtnbhgfnjnccakaaFx
namespace Go.Proofs.Ytnbhgfnjnccakaa
open Go Go.RowKit
set_option linter.unusedVariables false

/-! ### The ring's calls, by its bytes alone -/
section
variable {w : World} {b g size : Nat} {xs : List UInt8}
theorem rh_len (h : RingHas w b g size xs) : Calls Try.prog 62 #[.pointer (some ⟨b, 0, none⟩)] w fun e w' => e = .returned (.int .i64 (xs.length : Nat)) ∧ w = w' := by
  obtain ⟨r, h1, rfl, rfl⟩ := h
  exact ring_len h1
def putK (size : Nat) (xs bs : List UInt8) : Nat := min bs.length (size - xs.length)
theorem rh_put {v : Value} {bs : List UInt8} (h : RingHas w b g size xs) (hv : Rd w v bs) (hvg : bs ≠ [] → v.ownBlock ≠ some g) :
    Calls Try.prog 59 #[.pointer (some ⟨b, 0, none⟩), v] w fun e w' => e = .returned (.int .i64 (putK size xs bs : Nat)) ∧ RingHas w' b g size (xs ++ bs.take (putK size xs bs)) ∧ Upd [b, g] w w' := by
  obtain ⟨r, h1, rfl, rfl⟩ := h
  refine (ring_put h1 hv hvg).mono ?_
  rintro e w' ⟨rfl, h2, h3⟩
  exact ⟨rfl, ⟨_, h2, rfl, rfl⟩, h3⟩
theorem take_cnt (r : RingM) (n : Int) : r.peek n = r.xs.take n.toNat := by
  unfold RingM.peek RingM.cnt
  rw [List.take_eq_take_iff]; omega
theorem drop_cnt (r : RingM) (n : Int) : (r.drop n).xs = r.xs.drop n.toNat := by
  unfold RingM.drop RingM.cnt
  show r.xs.drop (min n.toNat r.xs.length) = _
  by_cases hh : n.toNat ≤ r.xs.length
  · rw [Nat.min_eq_left hh]
  · rw [Nat.min_eq_right (by omega), List.drop_length, List.drop_eq_nil_of_le (by omega)]
theorem rh_peek (n : Int) (h : RingHas w b g size xs) : Calls Try.prog 61 #[.pointer (some ⟨b, 0, none⟩), .int .i64 n] w (PeekPost w (xs.take n.toNat)) := by
  obtain ⟨r, h1, rfl, rfl⟩ := h
  rw [← take_cnt]
  exact ring_peek n h1
def RTakePost (w : World) (b g size : Nat) (xs' ys : List UInt8) (e : Ending) (w' : World) : Prop :=
  ∃ G, e = .returned (.slice (some ⟨G, 0, none⟩) ys.length ys.length) ∧ w.heap.size ≤ G ∧ Blk w' G 5 (ys.map byteV) ∧ RingHas w' b g size xs' ∧ Upd [b] w w'
theorem rh_take (n : Int) (h : RingHas w b g size xs) : Calls Try.prog 60 #[.pointer (some ⟨b, 0, none⟩), .int .i64 n] w (RTakePost w b g size (xs.drop n.toNat) (xs.take n.toNat)) := by
  obtain ⟨r, h1, rfl, rfl⟩ := h
  rw [← take_cnt, ← drop_cnt]
  refine (ring_take n h1).mono ?_
  rintro e w' ⟨G, rfl, hG, hB, h2, hU⟩
  exact ⟨G, rfl, hG, hB, ⟨_, h2, rfl, rfl⟩, hU⟩
theorem rh_clear (h : RingHas w b g size xs) : Calls Try.prog 86 #[.pointer (some ⟨b, 0, none⟩)] w fun e w' => e = .returned (.tuple #[]) ∧ RingHas w' b g size [] ∧ Upd [b] w w' := by
  obtain ⟨r, h1, rfl, rfl⟩ := h
  refine (ring_clear h1).mono ?_
  rintro e w' ⟨rfl, h2, hU⟩
  refine ⟨rfl, ⟨_, h2, ?_, rfl⟩, hU⟩
  rw [drop_cnt, Int.toNat_natCast, List.drop_length]
def RNewPost (w : World) (size : Nat) (xs : List UInt8) (e : Ending) (w' : World) : Prop :=
  ∃ b g, e = .returned (.tuple #[.pointer (some ⟨b, 0, none⟩), .int .i64 0]) ∧ w.heap.size ≤ b ∧ w.heap.size ≤ g ∧ RingHas w' b g size xs ∧ Upd [] w w'
theorem rh_new (n : Nat) (w : World) (hn : n ≤ 65536) : Calls Try.prog 54 #[.int .i64 n] w (RNewPost w n []) := by
  refine (ring_new n w (by omega) (by omega)).mono ?_
  rintro e w' ⟨b, g, rfl, h1, h2, h3, h4⟩
  exact ⟨b, g, rfl, h1, h2, ⟨_, h3, rfl, by simp [RingM.new]⟩, h4⟩
end

/-- The endpoint of a number, if there is one. -/
def PortM.at? (p : PortM) (k : Int) : Option EndM := if k < 0 then none else p.ends[k.toNat]?
def PortM.state (p : PortM) (k : Int) : Nat × Nat := match p.at? k with | some e => (e.st, 0) | none => (0, 2)
def PortM.waiting (p : PortM) (k : Int) : Nat := match p.at? k with | some e => e.xs.length | none => 0
def PortM.last (p : PortM) (k : Int) : Bool := match p.at? k with | some e => e.st == 1 && e.theirs | none => false
def PortM.ended (p : PortM) (k : Int) : Bool := p.last k && p.waiting k == 0
def EndM.roomN (e : EndM) : Nat := if e.st = 1 ∧ e.ours = false then e.room else 0
def PortM.roomOf (p : PortM) (k : Int) : Nat := match p.at? k with | some e => e.roomN | none => 0

theorem PortM.at?_nat (p : PortM) (i : Nat) : p.at? (i : Int) = p.ends[i]? := by
  unfold PortM.at?; rw [if_neg (by omega), Int.toNat_natCast]

theorem PortM.at?_cases (p : PortM) (k : Int) : (p.at? k = none ∧ (k < 0 ∨ (p.ends.length : Int) ≤ k)) ∨ ∃ (i : Nat) (x : EndM), k = i ∧ p.ends[i]? = some x ∧ p.at? k = some x ∧ i < p.ends.length := by
  by_cases hneg : k < 0
  · exact Or.inl ⟨by unfold PortM.at?; rw [if_pos hneg], Or.inl hneg⟩
  · obtain ⟨i, rfl⟩ := Int.eq_ofNat_of_zero_le (show 0 ≤ k by omega)
    by_cases hi : i < p.ends.length
    · exact Or.inr ⟨i, p.ends[i], rfl, List.getElem?_eq_getElem hi, by rw [PortM.at?_nat]; exact List.getElem?_eq_getElem hi, hi⟩
    · exact Or.inl ⟨by rw [PortM.at?_nat]; exact List.getElem?_eq_none (by omega), Or.inr (by omega)⟩

theorem pis_any (b : Nat) (m : Bool) (w : World) (h5 : w.cell? ⟨b, 4, none⟩ = some (.bool m)) :
    Calls Try.prog 55 #[.pointer (some ⟨b, 0, none⟩)] w fun e w' => e = .returned (.bool m) ∧ w = w' := by
  go_enter Try.func55, Try.ntmps55
  go_wp2
  go_ret
  exact ⟨rfl, rfl⟩

theorem pis_nil (w : World) : Calls Try.prog 55 #[.pointer none] w fun e w' => e = .returned (.bool false) ∧ w = w' := by
  go_enter Try.func55, Try.ntmps55
  go_wp2
  go_ret
  exact ⟨rfl, rfl⟩

theorem pis_none (p : Value) (w : World) (h : NoPort w p) : Calls Try.prog 55 #[p] w fun e w' => e = .returned (.bool false) ∧ w = w' := by
  rcases h with rfl | ⟨b, rfl, h5⟩
  · exact pis_nil w
  · exact pis_any b false w h5

section
variable {w : World} {base b : Nat} {l : PLay} {p : PortM}
theorem pt_is (h : PortAt w base b l p) : Calls Try.prog 55 #[.pointer (some ⟨b, 0, none⟩)] w fun e w' => e = .returned (.bool true) ∧ w = w' :=
  pis_any b true w (h.blk.cell (i := 4) rfl)

/-- What stream and find answer. -/
def StreamIs (l : PLay) (p : PortM) (k : Int) (a : Value) : Prop :=
  (p.at? k = none ∧ a = .pointer none) ∨ ∃ (i : Nat) (x : EndM) (g off cap : Nat), k = i ∧ p.ends[i]? = some x ∧ p.at? k = some x ∧ l.vl = .slice (some ⟨g, off, none⟩) p.ends.length cap ∧ a = .pointer (some ⟨g, off + i * 6, none⟩)

theorem pt_stream (k : Int) (h : PortAt w base b l p) : Calls Try.prog 57 #[.pointer (some ⟨b, 0, none⟩), .int .i64 k] w fun e w' => (∃ a, e = .returned a ∧ StreamIs l p k a) ∧ w = w' := by
  have his := pt_is h
  have b1 := h.blk.cell (i := 1) rfl
  obtain ⟨ao, co, hv⟩ := h.vlShape
  rcases p.at?_cases k with ⟨hn, hk⟩ | ⟨i, x, rfl, hx, hax, hil⟩
  · rw [hv] at b1
    rcases hk with hk | hk
    · go_enter Try.func57, Try.ntmps57
      go_wp2_with (go_at_call 55; refine his.mono ?_; rintro e w' ⟨rfl, rfl⟩)
      go_ret
      exact ⟨⟨_, rfl, Or.inl ⟨hn, rfl⟩⟩, rfl⟩
    · have hk0 : ¬ k < 0 := by omega
      go_enter Try.func57, Try.ntmps57
      go_wp2_with (go_at_call 55; refine his.mono ?_; rintro e w' ⟨rfl, rfl⟩)
      go_ret
      exact ⟨⟨_, rfl, Or.inl ⟨hn, rfl⟩⟩, rfl⟩
  · obtain ⟨g, off, cap, hv', hg, _⟩ := h.cells hx
    rw [hv'] at b1
    have eadd : (⟨g, off, none⟩ : Addr).add (i * 6) = ⟨g, off + i * 6, none⟩ := addr_add _ _ _
    go_enter Try.func57, Try.ntmps57
    go_wp2_with (go_at_call 55; refine his.mono ?_; rintro e w' ⟨rfl, rfl⟩)
    go_ret
    exact ⟨⟨_, rfl, Or.inr ⟨i, x, g, off, cap, rfl, hx, hax, hv', rfl⟩⟩, rfl⟩

theorem pt_find (k : Int) (h : PortAt w base b l p) : Calls Try.prog 63 #[.pointer (some ⟨b, 0, none⟩), .int .i64 k] w fun e w' => (∃ a, e = .returned (.tuple #[a, .int .i64 (p.state k).2]) ∧ StreamIs l p k a) ∧ w = w' := by
  have his := pt_is h
  have hst := pt_stream k h
  go_enter Try.func63, Try.ntmps63
  go_wp2_with fail
  refine hst.mono ?_
  rintro e w' ⟨⟨a, rfl, hs⟩, rfl⟩
  rcases hs with ⟨hn, rfl⟩ | ⟨i, x, g, off, cap, rfl, hx, hax, hv, rfl⟩
  · have e2 : (p.state k).2 = 2 := by unfold PortM.state; rw [hn]
    go_wp2_with (go_at_call 55; refine his.mono ?_; rintro e w' ⟨rfl, rfl⟩)
    go_ret2
    exact ⟨⟨_, by rw [e2]; rfl, Or.inl ⟨hn, rfl⟩⟩, rfl⟩
  · have e2 : (p.state i).2 = 0 := by unfold PortM.state; rw [hax]
    go_wp2_with (go_at_call 55; refine his.mono ?_; rintro e w' ⟨rfl, rfl⟩)
    go_ret2
    exact ⟨⟨_, by rw [e2]; rfl, Or.inr ⟨i, x, g, off, cap, rfl, hx, hax, hv, rfl⟩⟩, rfl⟩

theorem pt_state (k : Int) (h : PortAt w base b l p) : Calls Try.prog 25 #[.pointer (some ⟨b, 0, none⟩), .int .i64 k] w fun e w' => e = .returned (.tuple #[.int .i64 (p.state k).1, .int .i64 (p.state k).2]) ∧ w = w' := by
  have hf := pt_find k h
  go_enter Try.func25, Try.ntmps25
  go_wp2_with fail
  refine hf.mono ?_
  rintro e w' ⟨⟨a, rfl, hs⟩, rfl⟩
  rcases hs with ⟨hn, rfl⟩ | ⟨i, x, g, off, cap, rfl, hx, hax, hv, rfl⟩
  · have e2 : p.state k = (0, 2) := by unfold PortM.state; rw [hn]
    rw [e2]
    go_wp2_with fail
    go_ret2
    exact ⟨by rw [e2]; rfl, rfl⟩
  · have e2 : p.state i = (x.st, 0) := by unfold PortM.state; rw [hax]
    rw [e2]
    obtain ⟨g', off', cap', hv', hg, c0, c1, c2, c3, c4, c5, hfz⟩ := h.cells hx
    rw [hv] at hv'
    cases hv'
    clear hfz
    go_wp2_with fail
    go_ret2
    exact ⟨by rw [e2]; rfl, rfl⟩

theorem pt_waiting (k : Int) (h : PortAt w base b l p) : Calls Try.prog 26 #[.pointer (some ⟨b, 0, none⟩), .int .i64 k] w fun e w' => e = .returned (.int .i64 (p.waiting k : Nat)) ∧ w = w' := by
  have hf := pt_stream k h
  go_enter Try.func26, Try.ntmps26
  go_wp2_with fail
  refine hf.mono ?_
  rintro e w' ⟨⟨a, rfl, hs⟩, rfl⟩
  rcases hs with ⟨hn, rfl⟩ | ⟨i, x, g, off, cap, rfl, hx, hax, hv, rfl⟩
  · have e2 : p.waiting k = 0 := by unfold PortM.waiting; rw [hn]
    go_wp2_with fail
    go_ret
    exact ⟨by rw [e2]; rfl, rfl⟩
  · have e2 : p.waiting i = x.xs.length := by unfold PortM.waiting; rw [hax]
    obtain ⟨g', off', cap', hv', hg, c0, c1, c2, c3, c4, c5, hfz⟩ := h.cells hx
    rw [hv] at hv'
    cases hv'
    have hr := rh_len (h.rings i x hx)
    clear hfz
    go_wp2_with fail
    refine hr.mono ?_
    rintro e w' ⟨rfl, rfl⟩
    go_wp2_with fail
    go_ret
    exact ⟨by rw [e2]; rfl, rfl⟩

theorem pt_room (k : Int) (h : PortAt w base b l p) : Calls Try.prog 27 #[.pointer (some ⟨b, 0, none⟩), .int .i64 k] w fun e w' => e = .returned (.int .i64 (p.roomOf k : Nat)) ∧ w = w' := by
  have hf := pt_stream k h
  go_enter Try.func27, Try.ntmps27
  go_wp2_with fail
  refine hf.mono ?_
  rintro e w' ⟨⟨a, rfl, hs⟩, rfl⟩
  rcases hs with ⟨hn, rfl⟩ | ⟨i, x, g, off, cap, rfl, hx, hax, hv, rfl⟩
  · have e2 : p.roomOf k = 0 := by unfold PortM.roomOf; rw [hn]
    go_wp2_with fail
    go_ret
    exact ⟨by rw [e2]; rfl, rfl⟩
  · have e2 : p.roomOf i = x.roomN := by unfold PortM.roomOf; rw [hax]
    obtain ⟨g', off', cap', hv', hg, c0, c1, c2, c3, c4, c5, hfz⟩ := h.cells hx
    rw [hv] at hv'
    cases hv'
    clear hfz
    by_cases h1 : x.st = 1
    · rw [h1] at c1
      rcases Bool.eq_false_or_eq_true x.ours with h2 | h2
      · have e3 : x.roomN = 0 := by unfold EndM.roomN; rw [if_neg (by rw [h2]; simp)]
        rw [h2] at c5
        go_wp2_with fail
        go_ret
        exact ⟨by rw [e2, e3]; rfl, rfl⟩
      · have e3 : x.roomN = x.room := by unfold EndM.roomN; rw [if_pos ⟨h1, h2⟩]
        rw [h2] at c5
        go_wp2_with fail
        go_ret
        exact ⟨by rw [e2, e3]; rfl, rfl⟩
    · have h1' : ¬ (x.st : Int) = 1 := by omega
      have e3 : x.roomN = 0 := by unfold EndM.roomN; rw [if_neg (fun hh => h1 hh.1)]
      go_wp2_with fail
      go_ret
      exact ⟨by rw [e2, e3]; rfl, rfl⟩

theorem pt_last (k : Int) (h : PortAt w base b l p) : Calls Try.prog 53 #[.pointer (some ⟨b, 0, none⟩), .int .i64 k] w fun e w' => e = .returned (.bool (p.last k)) ∧ w = w' := by
  have hf := pt_stream k h
  go_enter Try.func53, Try.ntmps53
  go_wp2_with fail
  refine hf.mono ?_
  rintro e w' ⟨⟨a, rfl, hs⟩, rfl⟩
  rcases hs with ⟨hn, rfl⟩ | ⟨i, x, g, off, cap, rfl, hx, hax, hv, rfl⟩
  · have e2 : p.last k = false := by unfold PortM.last; rw [hn]
    go_wp2_with fail
    go_ret
    exact ⟨by rw [e2]; rfl, rfl⟩
  · have e2 : p.last i = (x.st == 1 && x.theirs) := by unfold PortM.last; rw [hax]
    obtain ⟨g', off', cap', hv', hg, c0, c1, c2, c3, c4, c5, hfz⟩ := h.cells hx
    rw [hv] at hv'
    cases hv'
    clear hfz
    by_cases h1 : x.st = 1
    · rw [h1] at c1
      have e3 : (x.st == 1 && x.theirs) = x.theirs := by rw [h1]; rfl
      go_wp2_with fail
      go_ret
      exact ⟨by rw [e2, e3]; rfl, rfl⟩
    · have h1' : ¬ (x.st : Int) = 1 := by omega
      have e3 : (x.st == 1 && x.theirs) = false := by simp [h1]
      go_wp2_with fail
      go_ret
      exact ⟨by rw [e2, e3]; rfl, rfl⟩

theorem pt_ended (k : Int) (h : PortAt w base b l p) : Calls Try.prog 21 #[.pointer (some ⟨b, 0, none⟩), .int .i64 k] w fun e w' => e = .returned (.bool (p.ended k)) ∧ w = w' := by
  have hf := pt_last k h
  have b1 := h.blk.cell (i := 1) rfl
  go_enter Try.func21, Try.ntmps21
  go_wp2_with fail
  refine hf.mono ?_
  rintro e w' ⟨rfl, rfl⟩
  rcases Bool.eq_false_or_eq_true (p.last k) with hl | hl
  · rcases p.at?_cases k with ⟨hn, _⟩ | ⟨i, x, rfl, hx, hax, hil⟩
    · unfold PortM.last at hl; rw [hn] at hl; cases hl
    · have e2 : p.ended i = (x.xs.length == 0) := by unfold PortM.ended PortM.waiting; rw [hl, hax]; rfl
      rw [hl]
      obtain ⟨g, off, cap, hv, hg, c0, c1, c2, c3, c4, c5, hfz⟩ := h.cells hx
      rw [hv] at b1
      have eadd : (⟨g, off, none⟩ : Addr).add (i * 6) = ⟨g, off + i * 6, none⟩ := addr_add _ _ _
      have hr := rh_len (h.rings i x hx)
      clear hfz
      by_cases h0 : x.xs.length = 0
      · rw [h0] at e2 hr
        go_wp2_with fail
        refine hr.mono ?_
        rintro e w' ⟨rfl, rfl⟩
        go_wp2_with fail
        go_ret
        exact ⟨by rw [e2]; rfl, rfl⟩
      · have h0' : ¬ (x.xs.length : Int) = 0 := by omega
        have e3 : (x.xs.length == 0) = false := by simp [h0]
        have e4 : ((x.xs.length : Int) == 0) = false := by simp [h0]
        go_wp2_with fail
        refine hr.mono ?_
        rintro e w' ⟨rfl, rfl⟩
        go_wp2_with fail
        go_ret
        exact ⟨by rw [e2, e3]; first | rfl | (rw [e4]; rfl), rfl⟩
  · have e2 : p.ended k = false := by unfold PortM.ended; rw [hl]; rfl
    rw [hl]
    go_wp2_with fail
    go_ret
    exact ⟨by rw [e2]; rfl, rfl⟩
end

end Go.Proofs.Ytnbhgfnjnccakaa
