/- The walks of the port's again, Outs, Accept, Take, Peek, Fin. -/
import Derived.Test.YtnbhgfnjnccakaaPort2
namespace Go.Proofs.Ytnbhgfnjnccakaa
open Go Go.RowKit
set_option linter.unusedVariables false

/-- An endpoint that begins anew. -/
def EndM.reset (st : Nat) : EndM := ⟨[], st, 0, false, false, false⟩

section
variable {w w1 : World} {base b : Nat} {l : PLay} {p : PortM}

theorem PortM.setEnd_get {i : Nat} {e : EndM} (hi : i < p.ends.length) : (p.setEnd i e).ends[i]? = some e := List.getElem?_set_self hi
theorem PortM.setEnd_set {i : Nat} {e e' : EndM} : (p.setEnd i e).setEnd i e' = p.setEnd i e' := by
  unfold PortM.setEnd; simp
theorem PortM.setEnd_same {i : Nat} {e : EndM} (hi : p.ends[i]? = some e) : p.setEnd i e = p := by
  obtain ⟨hl, rfl⟩ := List.getElem?_eq_some_iff.1 hi
  unfold PortM.setEnd; simp
theorem PortM.setEnd_len {i : Nat} {e : EndM} : (p.setEnd i e).ends.length = p.ends.length := by simp [PortM.setEnd]

/-- One cell written, as a step. -/
theorem PortAt.step {i j g off cap n : Nat} {e e' : EndM} {u : Value} (h : PortAt w base b l p) (hi : p.ends[i]? = some e) (hv : l.vl = .slice (some ⟨g, off, none⟩) n cap) (hj : j < 6) (hs : endC (l.rb i) e' = (endC (l.rb i) e).set j u) (hr : e'.xs = e.xs) (hf : e'.fine) :
    PSame w base b l (p.setEnd i e') (w.setCell ⟨g, off + i * 6 + j, none⟩ u) :=
  ⟨h.write hi hv hj hs hr hf, (Upd.refl _ _).setCell (a := ⟨g, off + i * 6 + j, none⟩) (Or.inl (h.tl g (by rw [hv]; rfl)).2.2) _⟩
/-- The ring turned, as a step. -/
theorem PortAt.ringStep {i : Nat} {e : EndM} {xs' : List UInt8} (h : PortAt w base b l p) (hi : p.ends[i]? = some e) (hu : Upd [l.rb i, l.g i] w w1) (hR : RingHas w1 (l.rb i) (l.g i) p.size xs') : PSame w base b l (p.setEnd i { e with xs := xs' }) w1 := by
  obtain ⟨t1, t2⟩ := h.tr i (List.getElem?_eq_some_iff.1 hi).1
  exact ⟨h.ring hi hu hR, hu.mono (fun q hq => by simp at hq; rcases hq with rfl | rfl; exact t1.2.2; exact t2.2.2)⟩

set_option maxHeartbeats 1000000 in
set_option maxRecDepth 100000 in
theorem pt_again {i g off cap : Nat} {x : EndM} (st : Nat) (hst : st ≤ 3) (h : PortAt w base b l p) (hi : p.ends[i]? = some x) (hv : l.vl = .slice (some ⟨g, off, none⟩) p.ends.length cap) :
    Calls Try.prog 58 #[.pointer (some ⟨g, off + i * 6, none⟩), .int .i64 st] w fun e w' => e = .returned (.tuple #[]) ∧ PSame w base b l (p.setEnd i (EndM.reset st)) w' := by
  obtain ⟨g', off', cap', hv', hg, c0, c1, c2, c3, c4, c5, hfz⟩ := h.cells hi
  rw [hv] at hv'
  cases hv'
  have hil := (List.getElem?_eq_some_iff.1 hi).1
  have hc := rh_clear (h.rings i x hi)
  clear c1 c2 c3 c4 c5 hfz
  go_enter Try.func58, Try.ntmps58
  go_wp2_with fail
  refine hc.mono ?_
  rintro e w1 ⟨rfl, hR, hU⟩
  have s0 := h.ringStep hi (hU.mono (by simp)) hR
  have h1 := s0.1
  have hv1 : l.vl = .slice (some ⟨g, off, none⟩) (p.setEnd i { x with xs := [] }).ends.length cap := by rw [PortM.setEnd_len]; exact hv
  obtain ⟨g', off', cap', hv', hg', d0, d1, d2, d3, d4, d5, hfz⟩ := h1.cells (PortM.setEnd_get hil)
  rw [hv1] at hv'
  cases hv'
  have f0 := hfz (off + i * 6)
  have f1 := hfz (off + i * 6 + 1)
  have f2 := hfz (off + i * 6 + 2)
  have f3 := hfz (off + i * 6 + 3)
  have f4 := hfz (off + i * 6 + 4)
  have f5 := hfz (off + i * 6 + 5)
  have hfx := h.fine x (List.mem_of_getElem? hi)
  have p0 := h1.step (j := 0) (e' := { x with xs := [] }) (u := .pointer (some ⟨l.rb i, 0, none⟩)) (PortM.setEnd_get hil) hv1 (by decide) rfl rfl hfx
  rw [PortM.setEnd_set] at p0
  have p1 := p0.1.step (j := 1) (e' := { x with xs := [], st := st }) (u := .int .i64 st) (PortM.setEnd_get hil) hv1 (by decide) rfl rfl ⟨hst, hfx.2⟩
  rw [PortM.setEnd_set] at p1
  have p2 := p1.1.step (j := 2) (e' := { x with xs := [], st := st, room := 0 }) (u := .int .i64 0) (PortM.setEnd_get hil) hv1 (by decide) rfl rfl ⟨hst, Nat.zero_le _⟩
  rw [PortM.setEnd_set] at p2
  have p3 := p2.1.step (j := 3) (e' := { x with xs := [], st := st, room := 0, fresh := false }) (u := .bool false) (PortM.setEnd_get hil) hv1 (by decide) rfl rfl ⟨hst, Nat.zero_le _⟩
  rw [PortM.setEnd_set] at p3
  have p4 := p3.1.step (j := 4) (e' := { x with xs := [], st := st, room := 0, fresh := false, theirs := false }) (u := .bool false) (PortM.setEnd_get hil) hv1 (by decide) rfl rfl ⟨hst, Nat.zero_le _⟩
  rw [PortM.setEnd_set] at p4
  have p5 := p4.1.step (j := 5) (e' := EndM.reset st) (u := .bool false) (PortM.setEnd_get hil) hv1 (by decide) rfl rfl ⟨hst, Nat.zero_le _⟩
  rw [PortM.setEnd_set] at p5
  have pp := ((((((s0.trans p0).trans p1).trans p2).trans p3).trans p4).trans p5)
  clear p0 p1 p2 p3 p4 p5 hfz h1 s0 hR hU
  simp only [Nat.add_zero] at pp
  go_wp2_with fail
  go_end0
  exact ⟨rfl, pp⟩

/-! ### Outs -/

def OutsPost (w : World) (base b : Nat) (l : PLay) (p : PortM) (e : Ending) (w' : World) : Prop :=
  ∃ v, e = .returned v ∧ Own w' base 51 10 v p.outs.length (outsC p.outs) ∧ (∀ q, v.ownBlock = some q → l.has base 3 q) ∧ PPost w base b l { p with outs := [] } w'

set_option maxHeartbeats 1000000 in
set_option maxRecDepth 100000 in
theorem pt_outs (h : PortAt w base b l p) : Calls Try.prog 24 #[.pointer (some ⟨b, 0, none⟩)] w (OutsPost w base b l p) := by
  have his := pt_is h
  have b3 := h.blk.cell (i := 3) rfl
  have f3 := h.blk.frozen 3
  have hown := h.outs
  have hto := h.to
  have hbs : base ≤ w.heap.size := by have := h.tb.1; have := h.blk.lt; omega
  have hR := h.reout (w1 := w) (vo' := .slice none 0 0) (outs' := []) (Upd.refl _ _) hbs (own_nil _ _ _ _) (fun q hq => by cases hq) rfl
  have hob : ∀ q, l.vo.ownBlock = some q → q ∉ [b] := fun q hq hq' => by simp at hq'; exact (h.to q hq).ne h.tb (by decide) hq'
  obtain ⟨ao, co, hvo⟩ := h.outs.shape
  rw [hvo] at b3 hown hto hob
  go_enter Try.func24, Try.ntmps24
  go_wp2_with (go_at_call 55; refine his.mono ?_; rintro e w' ⟨rfl, rfl⟩)
  go_ret
  exact ⟨_, rfl, hown.upd ((Upd.refl [b] _).setCell (Or.inl (by simp)) _) hob, hto, _, hR.1, hR.2.1, hR.2.2⟩

/-! ### Accept -/

/-- The least new endpoint (the number of all: none). -/
def PortM.newIx (p : PortM) : Nat := p.ends.findIdx (fun e => e.fresh)
def PortM.acceptA (p : PortM) : Nat × Nat := if p.newIx < p.ends.length then (p.newIx, 0) else (0, 5)
def PortM.accepted (p : PortM) : PortM := match p.ends[p.newIx]? with
  | some e => p.setEnd p.newIx { e with fresh := false }
  | none => p

set_option maxHeartbeats 1000000 in
set_option maxRecDepth 100000 in
theorem pt_accept (h : PortAt w base b l p) : Calls Try.prog 28 #[.pointer (some ⟨b, 0, none⟩)] w fun e w' =>
    e = .returned (.tuple #[.int .i64 p.acceptA.1, .int .i64 p.acceptA.2]) ∧ PSame w base b l p.accepted w' := by
  have his := pt_is h
  have b1 := h.blk.cell (i := 1) rfl
  have hsm := h.small
  obtain ⟨ao, co, hvl⟩ := h.vlShape
  rw [hvl] at b1
  go_enter Try.func28, Try.ntmps28
  go_wp2_with (go_at_call 55; refine his.mono ?_; rintro e w' ⟨rfl, rfl⟩)
  go_loopw [13] (fun i wr => ∃ k : Nat, k ≤ p.ends.length ∧ i = .int .i64 k ∧ (∀ j x, j < k → p.ends[j]? = some x → x.fresh = false) ∧ wr = w) (fun i _ => p.ends.length - (intOf i).toNat)
  case atStart => exact ⟨0, Nat.zero_le _, rfl, fun j x hj => absurd hj (Nat.not_lt_zero _), rfl⟩
  case round =>
    obtain ⟨k, hk, rfl, hall, rfl⟩ := hrel
    by_cases hlt : k < p.ends.length
    · obtain ⟨x, hx⟩ : ∃ x, p.ends[k]? = some x := ⟨p.ends[k], List.getElem?_eq_getElem hlt⟩
      obtain ⟨g, off, cap, hv, hg, c0, c1, c2, c3, c4, c5, hfz⟩ := h.cells hx
      rw [hvl] at hv
      cases hv
      have eadd : (⟨g, off, none⟩ : Addr).add (k * 6) = ⟨g, off + k * 6, none⟩ := addr_add _ _ _
      have hfx := h.fine x (List.mem_of_getElem? hx)
      rcases Bool.eq_false_or_eq_true x.fresh with hf | hf
      · have hfr : p.newIx = k := by
          unfold PortM.newIx
          obtain ⟨hk1, hk2⟩ := List.getElem?_eq_some_iff.1 hx
          refine (List.findIdx_eq hk1).2 ⟨by rw [hk2, hf], fun j hj => ?_⟩
          exact hall j p.ends[j] hj (List.getElem?_eq_getElem (by omega))
        have hA : p.acceptA = (k, 0) := by unfold PortM.acceptA; rw [hfr, if_pos hlt]
        have hT : p.accepted = p.setEnd k { x with fresh := false } := by unfold PortM.accepted; rw [hfr, hx]
        have f3 := hfz (off + k * 6 + 3)
        have pp := h.step (j := 3) (e' := { x with fresh := false }) (u := .bool false) hx hvl (by decide) rfl rfl hfx
        rw [hf] at c3
        clear hall hfz
        go_wp2_with fail
        go_ret2
        exact ⟨by rw [hA]; rfl, by rw [hT]; exact pp⟩
      · rw [hf] at c3
        clear hfz
        go_wp2_with fail
        go_roundw
        case rel => exact ⟨k + 1, hlt, by go_num, fun j y hj hy => by
          by_cases hjk : j = k
          · subst hjk; rw [hx] at hy; cases hy; exact hf
          · exact hall j y (by omega) hy, by first | rfl | trivial⟩
        case measure => simp [intOf]; omega
    · obtain rfl : k = p.ends.length := by omega
      have hfr : p.newIx = p.ends.length := by
        unfold PortM.newIx
        refine List.findIdx_eq_length.2 (fun x hx => ?_)
        obtain ⟨j, hj, rfl⟩ := List.mem_iff_getElem.1 hx
        exact hall j p.ends[j] hj (List.getElem?_eq_getElem hj)
      have hA : p.acceptA = (0, 5) := by unfold PortM.acceptA; rw [hfr, if_neg (Nat.lt_irrefl _)]
      have hT : p.accepted = p := by unfold PortM.accepted; rw [hfr, List.getElem?_eq_none (Nat.le_refl _)]
      clear hall
      go_wp2_with fail
      go_ret2
      exact ⟨by rw [hA]; rfl, by rw [hT]; exact PSame.refl h⟩

/-! ### Take, Peek -/

def PortM.takeB (p : PortM) (k n : Int) : List UInt8 := match p.at? k with | some e => e.xs.take n.toNat | none => []
def PortM.taken (p : PortM) (k n : Int) : PortM := match p.at? k with | some e => p.setEnd k.toNat { e with xs := e.xs.drop n.toNat } | none => p
/-- Bytes that a call hands on: nil, or a new block. -/
def GivenB (w w' : World) (v : Value) (ys : List UInt8) : Prop := Own w' w.heap.size 5 1 v ys.length (ys.map byteV)
theorem given_blk {w' : World} {G : Nat} {ys : List UInt8} (hG : w.heap.size ≤ G) (hB : Blk w' G 5 (ys.map byteV)) (hl : ys.length ≤ 65536) : GivenB w w' (.slice (some ⟨G, 0, none⟩) ys.length ys.length) ys :=
  ⟨by simp, Or.inr ⟨G, 0, ys.length, [], [], rfl, hG, by simpa using hB, rfl, by simp, Nat.le_refl _, by unfold maxLen; omega⟩⟩

def PTakePost (w : World) (base b : Nat) (l : PLay) (p' : PortM) (ys : List UInt8) (e : Ending) (w' : World) : Prop :=
  ∃ v, e = .returned v ∧ GivenB w w' v ys ∧ PSame w base b l p' w'

theorem pt_take (k n : Int) (h : PortAt w base b l p) : Calls Try.prog 18 #[.pointer (some ⟨b, 0, none⟩), .int .i64 k, .int .i64 n] w (PTakePost w base b l (p.taken k n) (p.takeB k n)) := by
  have hf := pt_stream k h
  go_enter Try.func18, Try.ntmps18
  go_wp2_with fail
  refine hf.mono ?_
  rintro e w' ⟨⟨a, rfl, hs⟩, rfl⟩
  rcases hs with ⟨hn, rfl⟩ | ⟨i, x, g, off, cap, rfl, hx, hax, hv, rfl⟩
  · have e1 : p.takeB k n = [] := by unfold PortM.takeB; rw [hn]
    have e2 : p.taken k n = p := by unfold PortM.taken; rw [hn]
    go_wp2_with fail
    go_ret
    exact ⟨_, rfl, by rw [e1]; exact own_nil _ _ _ _, by rw [e2]; exact PSame.refl h⟩
  · have e1 : p.takeB i n = x.xs.take n.toNat := by unfold PortM.takeB; rw [hax]
    have e2 : p.taken i n = p.setEnd i { x with xs := x.xs.drop n.toNat } := by unfold PortM.taken; rw [hax, Int.toNat_natCast]
    obtain ⟨g', off', cap', hv', hg, c0, c1, c2, c3, c4, c5, hfz⟩ := h.cells hx
    rw [hv] at hv'
    cases hv'
    have hr := rh_take n (h.rings i x hx)
    have hfit : (x.xs.take n.toNat).length ≤ 65536 := by have := (h.rings i x hx).fit; rw [List.length_take]; omega
    generalize x.xs.take n.toNat = ys at *
    clear hfz
    go_wp2_with fail
    refine hr.mono ?_
    rintro e w1 ⟨G, rfl, hG, hB, hR, hU⟩
    have pp := h.ringStep hx (hU.mono (by simp)) hR
    go_wp2_with fail
    go_ret
    exact ⟨_, rfl, by rw [e1]; exact given_blk hG hB hfit, by rw [e2]; exact pp⟩

theorem pt_peek (k n : Int) (h : PortAt w base b l p) : Calls Try.prog 20 #[.pointer (some ⟨b, 0, none⟩), .int .i64 k, .int .i64 n] w fun e w' => ∃ v, e = .returned v ∧ GivenB w w' v (p.takeB k n) ∧ Upd [] w w' := by
  have hf := pt_stream k h
  go_enter Try.func20, Try.ntmps20
  go_wp2_with fail
  refine hf.mono ?_
  rintro e w' ⟨⟨a, rfl, hs⟩, rfl⟩
  rcases hs with ⟨hn, rfl⟩ | ⟨i, x, g, off, cap, rfl, hx, hax, hv, rfl⟩
  · have e1 : p.takeB k n = [] := by unfold PortM.takeB; rw [hn]
    go_wp2_with fail
    go_ret
    exact ⟨_, rfl, by rw [e1]; exact own_nil _ _ _ _, Upd.refl _ _⟩
  · have e1 : p.takeB i n = x.xs.take n.toNat := by unfold PortM.takeB; rw [hax]
    obtain ⟨g', off', cap', hv', hg, c0, c1, c2, c3, c4, c5, hfz⟩ := h.cells hx
    rw [hv] at hv'
    cases hv'
    have hr := rh_peek n (h.rings i x hx)
    have hfit : (x.xs.take n.toNat).length ≤ 65536 := by have := (h.rings i x hx).fit; rw [List.length_take]; omega
    generalize x.xs.take n.toNat = ys at *
    clear hfz
    go_wp2_with fail
    refine hr.mono ?_
    rintro e w1 ⟨G, rfl, hG, hB, hU⟩
    go_wp2_with fail
    go_ret
    exact ⟨_, rfl, by rw [e1]; exact given_blk hG hB hfit, hU⟩
end

end Go.Proofs.Ytnbhgfnjnccakaa
