/- The document's port (sallyportref15): how it lies in memory. It answers by the same plain model as the port. No Go text is walked here. -/
import Derived.Test.YtnbhgfnjnccakaaPortSpec
import Derived.Test.YtnbhgfnjnccakaaPort3
import Derived.Test.YtnbhgfnjnccakaaRef2
namespace Go.Proofs.Ytnbhgfnjnccakaa
open Go Go.RowKit
set_option linter.unusedVariables false

/-- The document's ring, by its bytes alone. -/
def RefHas (w : World) (base b : Nat) (v : Value) (size : Nat) (xs : List UInt8) : Prop := ∃ r, RefAt w base b v r ∧ r.xs = xs ∧ r.size = size
theorem RefHas.upd {w w1 : World} {base b size : Nat} {v : Value} {xs : List UInt8} {F : List Nat} (h : RefHas w base b v size xs) (hu : Upd F w w1) (hb : b ∉ F) (hv : ∀ q, v.ownBlock = some q → q ∉ F) : RefHas w1 base b v size xs := by
  obtain ⟨r, h1, h2, h3⟩ := h
  exact ⟨r, h1.upd hu hb hv, h2, h3⟩
theorem RefHas.lt {w : World} {base b size : Nat} {v : Value} {xs : List UInt8} (h : RefHas w base b v size xs) : base ≤ b ∧ b < w.heap.size := by
  obtain ⟨r, h1, _⟩ := h
  exact ⟨h1.base, h1.lt⟩
theorem RefHas.vlt {w : World} {base b size : Nat} {v : Value} {xs : List UInt8} (h : RefHas w base b v size xs) : ∀ q, v.ownBlock = some q → base ≤ q ∧ q < w.heap.size := by
  obtain ⟨r, h1, _⟩ := h
  exact h1.vlt
theorem RefHas.fit {w : World} {base b size : Nat} {v : Value} {xs : List UInt8} (h : RefHas w base b v size xs) : xs.length ≤ size ∧ size ≤ 65536 := by
  obtain ⟨r, h1, rfl, rfl⟩ := h
  exact ⟨h1.fit, h1.small⟩

/-- An endpoint's six cells; its ring lies at rb. -/
def endR (rb : Nat) (e : EndM) : List Value := [.int .i64 e.st, .int .i64 e.room, .bool e.fresh, .bool e.theirs, .bool e.ours, .pointer (some ⟨rb, 0, none⟩)]
def LayR (rb : Nat → Nat) (xs : List Value) (es : List EndM) : Prop :=
  xs.length = es.length * 6 ∧ ∀ i e, es[i]? = some e → ∀ j v, (endR (rb i) e)[j]? = some v → xs[i * 6 + j]? = some v

theorem LayR.set {rb : Nat → Nat} {xs : List Value} {es : List EndM} {i j : Nat} {e e' : EndM} {u : Value} (h : LayR rb xs es) (hi : es[i]? = some e) (hj : j < 6) (hs : endR (rb i) e' = (endR (rb i) e).set j u) : LayR rb (xs.set (i * 6 + j) u) (es.set i e') := by
  have hl := h.1
  have hil := (List.getElem?_eq_some_iff.1 hi).1
  refine ⟨by rw [List.length_set, List.length_set]; exact hl, fun k x hk m v hv => ?_⟩
  have hm : m < 6 := (List.getElem?_eq_some_iff.1 hv).1
  by_cases hik : i = k
  · subst hik
    rw [List.getElem?_set_self hil] at hk
    cases hk
    rw [hs] at hv
    by_cases hjm : j = m
    · subst hjm
      rw [List.getElem?_set_self (by exact hj)] at hv
      rw [List.getElem?_set_self (by omega)]
      exact hv
    · rw [List.getElem?_set_ne hjm] at hv
      rw [List.getElem?_set_ne (by omega)]
      exact h.2 i e hi m v hv
  · rw [List.getElem?_set_ne hik] at hk
    rw [List.getElem?_set_ne (by omega)]
    exact h.2 k x hk m v hv

theorem LayR.same {rb : Nat → Nat} {xs : List Value} {es : List EndM} {i : Nat} {e e' : EndM} (h : LayR rb xs es) (hi : es[i]? = some e) (hs : endR (rb i) e' = endR (rb i) e) : LayR rb xs (es.set i e') := by
  refine ⟨by rw [List.length_set]; exact h.1, fun k x hk m v hv => ?_⟩
  by_cases hik : i = k
  · subst hik
    rw [List.getElem?_set_self (List.getElem?_eq_some_iff.1 hi).1] at hk
    cases hk
    rw [hs] at hv
    exact h.2 i e hi m v hv
  · rw [List.getElem?_set_ne hik] at hk
    exact h.2 k x hk m v hv

/-- Six cells written anew. -/
def set6 (xs : List Value) (o : Nat) (a b c d e f : Value) : List Value := (((((xs.set o a).set (o + 1) b).set (o + 2) c).set (o + 3) d).set (o + 4) e).set (o + 5) f
theorem set6_length (xs : List Value) (o : Nat) (a b c d e f : Value) : (set6 xs o a b c d e f).length = xs.length := by simp [set6]
theorem set6_in (xs : List Value) (o : Nat) (a b c d e f : Value) (ho : o + 6 ≤ xs.length) (j : Nat) (v : Value) (hj : ([a, b, c, d, e, f] : List Value)[j]? = some v) : (set6 xs o a b c d e f)[o + j]? = some v := by
  have hm : j < 6 := (List.getElem?_eq_some_iff.1 hj).1
  have : j = 0 ∨ j = 1 ∨ j = 2 ∨ j = 3 ∨ j = 4 ∨ j = 5 := by omega
  unfold set6
  rcases this with rfl | rfl | rfl | rfl | rfl | rfl
  · show (((((((xs.set o a).set (o + 1) b).set (o + 2) c).set (o + 3) d).set (o + 4) e).set (o + 5) f))[o]? = some v; rw [List.getElem?_set_ne (by omega), List.getElem?_set_ne (by omega), List.getElem?_set_ne (by omega), List.getElem?_set_ne (by omega), List.getElem?_set_ne (by omega)]; rw [List.getElem?_set_self (by omega)]; exact hj
  · rw [List.getElem?_set_ne (by omega), List.getElem?_set_ne (by omega), List.getElem?_set_ne (by omega), List.getElem?_set_ne (by omega)]; rw [List.getElem?_set_self (by simp only [List.length_set]; omega)]; exact hj
  · rw [List.getElem?_set_ne (by omega), List.getElem?_set_ne (by omega), List.getElem?_set_ne (by omega)]; rw [List.getElem?_set_self (by simp only [List.length_set]; omega)]; exact hj
  · rw [List.getElem?_set_ne (by omega), List.getElem?_set_ne (by omega)]; rw [List.getElem?_set_self (by simp only [List.length_set]; omega)]; exact hj
  · rw [List.getElem?_set_ne (by omega)]; rw [List.getElem?_set_self (by simp only [List.length_set]; omega)]; exact hj
  · rw [List.getElem?_set_self (by simp only [List.length_set]; omega)]; exact hj
theorem set6_out (xs : List Value) (o : Nat) (a b c d e f : Value) (m : Nat) (hm : m < o ∨ o + 6 ≤ m) : (set6 xs o a b c d e f)[m]? = xs[m]? := by
  unfold set6
  rw [List.getElem?_set_ne (by omega), List.getElem?_set_ne (by omega), List.getElem?_set_ne (by omega), List.getElem?_set_ne (by omega), List.getElem?_set_ne (by omega), List.getElem?_set_ne (by omega)]

theorem LayR.renew {rb : Nat → Nat} {xs : List Value} {es : List EndM} {i B : Nat} {e : EndM} (h : LayR rb xs es) (hi : i < es.length) :
    LayR (fun k => if k = i then B else rb k) (set6 xs (i * 6) (.int .i64 e.st) (.int .i64 e.room) (.bool e.fresh) (.bool e.theirs) (.bool e.ours) (.pointer (some ⟨B, 0, none⟩))) (es.set i e) := by
  have hl := h.1
  refine ⟨by rw [set6_length, List.length_set]; exact hl, fun k x hk m v hv => ?_⟩
  have hm : m < 6 := (List.getElem?_eq_some_iff.1 hv).1
  by_cases hik : i = k
  · subst hik
    rw [List.getElem?_set_self hi] at hk
    cases hk
    simp only [if_true] at hv
    exact set6_in _ _ _ _ _ _ _ _ (by omega) m v hv
  · rw [List.getElem?_set_ne hik] at hk
    have hki : ¬ k = i := fun e => hik e.symm
    simp only [if_neg hki] at hv
    rw [set6_out _ _ _ _ _ _ _ _ _ (by omega)]
    exact h.2 k x hk m v hv

/-- Where the document's port's things lie. -/
structure XLay where
  rb : Nat → Nat
  rv : Nat → Value
  ve : Value
  vx : Value
  vo : Value
  tag : Nat → Nat
  foot : List Nat

def XLay.has (L : XLay) (base n q : Nat) : Prop := base ≤ q ∧ L.tag q = n ∧ q ∈ L.foot
theorem XLay.has.ne {L : XLay} {base base' n m q r : Nat} (h : L.has base n q) (h' : L.has base' m r) (hnm : n ≠ m) : q ≠ r := fun e => hnm (by subst e; rw [← h.2.1, ← h'.2.1])

structure RPortAt (w : World) (base c : Nat) (L : XLay) (p : PortM) : Prop where
  blk : Blk w c 95 [.int .i64 p.clients, .int .i64 p.size, L.ve, L.vx, L.vo]
  ends : ∃ xs, Own w base 120 6 L.ve p.ends.length xs ∧ LayR L.rb xs p.ends
  rings : ∀ i e, p.ends[i]? = some e → RefHas w base (L.rb i) (L.rv i) p.size e.xs
  box : ∃ ys : List Value, OwnE w base 35 1 L.vx p.box.length ys ∧ ∀ (i : Nat) (bs : List UInt8), p.box[i]? = some bs → ∃ v : Value, ys[i]? = some v ∧ Rd w v bs ∧ ∀ q, v.ownBlock = some q → L.has base 4 q
  outs : Own w base 51 10 L.vo p.outs.length (outsC p.outs)
  tb : L.has base 0 c
  tl : ∀ q, L.ve.ownBlock = some q → L.has base 1 q
  tx : ∀ q, L.vx.ownBlock = some q → L.has base 2 q
  to : ∀ q, L.vo.ownBlock = some q → L.has base 3 q
  tr : ∀ i, i < p.ends.length → L.has base (5 + 2 * i) (L.rb i) ∧ ∀ q, (L.rv i).ownBlock = some q → L.has base (6 + 2 * i) q
  small : p.ends.length ≤ 128
  sz : p.size ≤ 65536
  fine : ∀ e ∈ p.ends, e.fine
  bx : p.box.length ≤ 8
  lt : ∀ q, q ∈ L.foot → q < w.heap.size
  ge : ∀ q, q ∈ L.foot → base ≤ q

def RPost (w : World) (base c : Nat) (L : XLay) (p' : PortM) (w' : World) : Prop := ∃ L', RPortAt w' base c L' p' ∧ Upd L.foot w w' ∧ Within w L'.foot L.foot

section
variable {w w1 w2 : World} {base c : Nat} {L : XLay} {p p1 p2 : PortM}

theorem RPost.refl (h : RPortAt w base c L p) : RPost w base c L p w := ⟨L, h, Upd.refl _ _, Within.refl _ _⟩
theorem RPost.trans (h : RPost w base c L p1 w1) (h' : ∀ L1, RPortAt w1 base c L1 p1 → RPost w1 base c L1 p2 w2) : RPost w base c L p2 w2 := by
  obtain ⟨L1, hP, hU, hW⟩ := h
  obtain ⟨L2, hP2, hU2, hW2⟩ := h' L1 hP
  exact ⟨L2, hP2, hU.trans hW hU2, Within.trans hU hW hW2⟩

theorem RPortAt.upd {F : List Nat} (h : RPortAt w base c L p) (hu : Upd F w w1) (hF : ∀ q, q ∈ F → q ∉ L.foot) : RPortAt w1 base c L p := by
  have k : ∀ n q, L.has base n q → q ∉ F := fun n q hq hq' => hF q hq' hq.2.2
  obtain ⟨xs, h1, h2⟩ := h.ends
  obtain ⟨ys, h3, h4⟩ := h.box
  exact { h with
    blk := h.blk.upd hu (k _ _ h.tb)
    ends := ⟨xs, h1.upd hu (fun q hq => k _ _ (h.tl q hq)), h2⟩
    rings := fun i e hi => (h.rings i e hi).upd hu (k _ _ (h.tr i (List.getElem?_eq_some_iff.1 hi).1).1) (fun q hq => k _ _ ((h.tr i (List.getElem?_eq_some_iff.1 hi).1).2 q hq))
    box := ⟨ys, h3.upd hu (fun q hq => k _ _ (h.tx q hq)), fun i bs hi => by
      obtain ⟨v, e1, e2, e3⟩ := h4 i bs hi
      exact ⟨v, e1, e2.upd hu (fun q hq => k _ _ (e3 q hq)), e3⟩⟩
    outs := h.outs.upd hu (fun q hq => k _ _ (h.to q hq))
    lt := fun q hq => Nat.lt_of_lt_of_le (h.lt q hq) hu.size }
theorem RPortAt.fresh (h : RPortAt w base c L p) {q : Nat} (hq : w.heap.size ≤ q) : q ∉ L.foot := fun h' => by have := h.lt q h'; omega
theorem RPortAt.veShape (h : RPortAt w base c L p) : ∃ ao cap, L.ve = .slice ao p.ends.length cap := by obtain ⟨xs, h1, _⟩ := h.ends; exact h1.shape
theorem RPortAt.bsz (h : RPortAt w base c L p) : base ≤ w.heap.size := by have := h.tb.1; have := h.blk.lt; omega

/-- Endpoint i: where it lies, and its cells. -/
theorem RPortAt.cells (h : RPortAt w base c L p) {i : Nat} {e : EndM} (hi : p.ends[i]? = some e) :
    ∃ g off cap, L.ve = .slice (some ⟨g, off, none⟩) p.ends.length cap ∧ L.has base 1 g ∧ w.cell? ⟨g, off + i * 6, none⟩ = some (.int .i64 e.st) ∧ w.cell? ⟨g, off + i * 6 + 1, none⟩ = some (.int .i64 e.room) ∧
      w.cell? ⟨g, off + i * 6 + 2, none⟩ = some (.bool e.fresh) ∧ w.cell? ⟨g, off + i * 6 + 3, none⟩ = some (.bool e.theirs) ∧ w.cell? ⟨g, off + i * 6 + 4, none⟩ = some (.bool e.ours) ∧ w.cell? ⟨g, off + i * 6 + 5, none⟩ = some (.pointer (some ⟨L.rb i, 0, none⟩)) ∧ ∀ j, w.frozen? ⟨g, j, none⟩ = false := by
  obtain ⟨xs, h1, h2⟩ := h.ends
  have hil := (List.getElem?_eq_some_iff.1 hi).1
  obtain ⟨ao, cap, hv⟩ := h1.shape
  rw [hv] at h1
  rcases h1.2 with ⟨hv', h0⟩ | ⟨g, off, cap', pre, rest, hv', hb, hg, hp, hr, hn, hc⟩
  · omega
  · cases hv'
    have key : ∀ j u, (endR (L.rb i) e)[j]? = some u → w.cell? ⟨g, off + i * 6 + j, none⟩ = some u := fun j u hj => by
      have := h1.cell rfl (h2.2 i e hi j u hj)
      rw [← Nat.add_assoc] at this
      exact this
    exact ⟨g, off, cap, hv, h.tl g (by rw [hv]; rfl), key 0 _ rfl, key 1 _ rfl, key 2 _ rfl, key 3 _ rfl, key 4 _ rfl, key 5 _ rfl, fun j => h1.frozen j⟩

/-- One cell of an endpoint is written. -/
theorem RPortAt.write (h : RPortAt w base c L p) {i j g off cap n : Nat} {e e' : EndM} {u : Value} (hi : p.ends[i]? = some e) (hv : L.ve = .slice (some ⟨g, off, none⟩) n cap) (hj : j < 6) (hs : endR (L.rb i) e' = (endR (L.rb i) e).set j u) (hr : e'.xs = e.xs) (hf : e'.fine) :
    RPortAt (w.setCell ⟨g, off + i * 6 + j, none⟩ u) base c L (p.setEnd i e') := by
  have hnn : n = p.ends.length := by obtain ⟨ao, co, hs⟩ := h.veShape; rw [hv] at hs; cases hs; rfl
  subst hnn
  obtain ⟨xs, h1, h2⟩ := h.ends
  obtain ⟨ys, h3, h4⟩ := h.box
  have hil := (List.getElem?_eq_some_iff.1 hi).1
  have tg := h.tl g (by rw [hv]; rfl)
  have hu : Upd [g] w (w.setCell ⟨g, off + i * 6 + j, none⟩ u) := (Upd.refl _ _).setCell (a := ⟨g, off + i * 6 + j, none⟩) (Or.inl (by simp)) _
  have k : ∀ n q, n ≠ 1 → L.has base n q → q ∉ [g] := fun n q hn hq hq' => by simp at hq'; subst hq'; exact hn (by rw [← hq.2.1, ← tg.2.1])
  have hlen : (p.setEnd i e').ends.length = p.ends.length := by simp [PortM.setEnd]
  refine { blk := h.blk.upd hu (k _ _ (by decide) h.tb), ends := ⟨xs.set (i * 6 + j) u, ?_, h2.set hi hj hs⟩, rings := fun k' x hk => ?_, box := ⟨ys, h3.upd hu (fun q hq => k _ _ (by decide) (h.tx q hq)), fun i bs hi => ?_⟩, outs := h.outs.upd hu (fun q hq => k _ _ (by decide) (h.to q hq)), tb := h.tb, tl := h.tl, tx := h.tx, to := h.to, tr := fun i hi => h.tr i (by rw [← hlen]; exact hi), small := by rw [hlen]; exact h.small, sz := h.sz, fine := fun x hx => ?_, bx := h.bx, lt := fun q hq => Nat.lt_of_lt_of_le (h.lt q hq) hu.size, ge := h.ge }
  · rw [hlen, hv, Nat.add_assoc]
    rw [hv] at h1
    exact h1.set _ _ (by have := h2.1; omega)
  · by_cases hik : i = k'
    · subst hik
      have hx : x = e' := by simp only [PortM.setEnd, List.getElem?_set_self hil] at hk; exact (Option.some.inj hk).symm
      subst hx
      rw [hr]
      exact (h.rings i e hi).upd hu (k _ _ (by omega) (h.tr i hil).1) (fun q hq => k _ _ (by omega) ((h.tr i hil).2 q hq))
    · have hk' : p.ends[k']? = some x := by simp only [PortM.setEnd, List.getElem?_set_ne hik] at hk; exact hk
      have hkl := (List.getElem?_eq_some_iff.1 hk').1
      exact (h.rings k' x hk').upd hu (k _ _ (by omega) (h.tr k' hkl).1) (fun q hq => k _ _ (by omega) ((h.tr k' hkl).2 q hq))
  · obtain ⟨v, e1, e2, e3⟩ := h4 i bs hi
    exact ⟨v, e1, e2.upd hu (fun q hq => k _ _ (by decide) (e3 q hq)), e3⟩
  · rcases List.mem_or_eq_of_mem_set hx with h' | h'
    · exact h.fine x h'
    · rw [h']; exact hf
theorem RPortAt.write_post (h : RPortAt w base c L p) {i j g off cap n : Nat} {e e' : EndM} {u : Value} (hi : p.ends[i]? = some e) (hv : L.ve = .slice (some ⟨g, off, none⟩) n cap) (hj : j < 6) (hs : endR (L.rb i) e' = (endR (L.rb i) e).set j u) (hr : e'.xs = e.xs) (hf : e'.fine) :
    RPost w base c L (p.setEnd i e') (w.setCell ⟨g, off + i * 6 + j, none⟩ u) :=
  ⟨L, h.write hi hv hj hs hr hf, (Upd.refl _ _).setCell (a := ⟨g, off + i * 6 + j, none⟩) (Or.inl (h.tl g (by rw [hv]; rfl)).2.2) _, Within.refl _ _⟩

/-- The layout behind a new ring for endpoint i. -/
def XLay.renew (L : XLay) (n i B : Nat) (v : Value) : XLay := { L with rb := fun k => if k = i then B else L.rb k, rv := fun k => if k = i then v else L.rv k, tag := fun q => if n ≤ q then (if q = B then 5 + 2 * i else 6 + 2 * i) else L.tag q, foot := B :: (v.ownBlock.toList ++ L.foot) }

/-- An endpoint begins anew, with a new ring. -/
theorem RPortAt.renew (h : RPortAt w base c L p) {i g off cap n B : Nat} {e : EndM} (hi : i < p.ends.length) (hv : L.ve = .slice (some ⟨g, off, none⟩) n cap) (hu : Upd [] w w1) (hB : w.heap.size ≤ B) (hR : RefHas w1 base B (.slice none 0 0) p.size []) (hx : e.xs = []) (hf : e.fine)
    (hw2 : w2 = (((((w1.setCell ⟨g, off + i * 6, none⟩ (.int .i64 e.st)).setCell ⟨g, off + i * 6 + 1, none⟩ (.int .i64 e.room)).setCell ⟨g, off + i * 6 + 2, none⟩ (.bool e.fresh)).setCell ⟨g, off + i * 6 + 3, none⟩ (.bool e.theirs)).setCell ⟨g, off + i * 6 + 4, none⟩ (.bool e.ours)).setCell ⟨g, off + i * 6 + 5, none⟩ (.pointer (some ⟨B, 0, none⟩))) :
    RPortAt w2 base c (L.renew w.heap.size i B (.slice none 0 0)) (p.setEnd i e) ∧ Upd L.foot w w2 ∧ Within w (L.renew w.heap.size i B (.slice none 0 0)).foot L.foot := by
  subst hw2
  have hnn : n = p.ends.length := by obtain ⟨ao, co, hs⟩ := h.veShape; rw [hv] at hs; cases hs; rfl
  subst hnn
  obtain ⟨xs, h1, h2⟩ := h.ends
  obtain ⟨ys, h3, h4⟩ := h.box
  have tg := h.tl g (by rw [hv]; rfl)
  have hs : Upd [g] w1 ((((((w1.setCell ⟨g, off + i * 6, none⟩ (.int .i64 e.st)).setCell ⟨g, off + i * 6 + 1, none⟩ (.int .i64 e.room)).setCell ⟨g, off + i * 6 + 2, none⟩ (.bool e.fresh)).setCell ⟨g, off + i * 6 + 3, none⟩ (.bool e.theirs)).setCell ⟨g, off + i * 6 + 4, none⟩ (.bool e.ours)).setCell ⟨g, off + i * 6 + 5, none⟩ (.pointer (some ⟨B, 0, none⟩))) :=
    ((((((Upd.refl _ _).setCell (a := ⟨g, off + i * 6, none⟩) (Or.inl (by simp)) _).setCell (a := ⟨g, off + i * 6 + 1, none⟩) (Or.inl (by simp)) _).setCell (a := ⟨g, off + i * 6 + 2, none⟩) (Or.inl (by simp)) _).setCell (a := ⟨g, off + i * 6 + 3, none⟩) (Or.inl (by simp)) _).setCell (a := ⟨g, off + i * 6 + 4, none⟩) (Or.inl (by simp)) _).setCell (a := ⟨g, off + i * 6 + 5, none⟩) (Or.inl (by simp)) _
  have hown : Own ((((((w1.setCell ⟨g, off + i * 6, none⟩ (.int .i64 e.st)).setCell ⟨g, off + i * 6 + 1, none⟩ (.int .i64 e.room)).setCell ⟨g, off + i * 6 + 2, none⟩ (.bool e.fresh)).setCell ⟨g, off + i * 6 + 3, none⟩ (.bool e.theirs)).setCell ⟨g, off + i * 6 + 4, none⟩ (.bool e.ours)).setCell ⟨g, off + i * 6 + 5, none⟩ (.pointer (some ⟨B, 0, none⟩))) base 120 6 L.ve p.ends.length (set6 xs (i * 6) (.int .i64 e.st) (.int .i64 e.room) (.bool e.fresh) (.bool e.theirs) (.bool e.ours) (.pointer (some ⟨B, 0, none⟩))) := by
    have o1 := h1.upd hu (by simp)
    rw [hv] at o1 ⊢
    have hl := h2.1
    have a0 := o1.set (i * 6) (.int .i64 e.st) (by omega)
    have a1 := a0.set (i * 6 + 1) (.int .i64 e.room) (by simp; omega)
    have a2 := a1.set (i * 6 + 2) (.bool e.fresh) (by simp; omega)
    have a3 := a2.set (i * 6 + 3) (.bool e.theirs) (by simp; omega)
    have a4 := a3.set (i * 6 + 4) (.bool e.ours) (by simp; omega)
    have a5 := a4.set (i * 6 + 5) (.pointer (some ⟨B, 0, none⟩)) (by simp; omega)
    simp only [← Nat.add_assoc] at a5
    exact a5
  generalize (((((w1.setCell ⟨g, off + i * 6, none⟩ (.int .i64 e.st)).setCell ⟨g, off + i * 6 + 1, none⟩ (.int .i64 e.room)).setCell ⟨g, off + i * 6 + 2, none⟩ (.bool e.fresh)).setCell ⟨g, off + i * 6 + 3, none⟩ (.bool e.theirs)).setCell ⟨g, off + i * 6 + 4, none⟩ (.bool e.ours)).setCell ⟨g, off + i * 6 + 5, none⟩ (.pointer (some ⟨B, 0, none⟩)) = w2 at *
  have hsz := hu.size
  have hU : Upd [g] w w2 := (hu.mono (by simp)).trans_same hs
  have k : ∀ n q, n ≠ 1 → L.has base n q → q ∉ [g] := fun n q hn hq hq' => by simp at hq'; subst hq'; exact hn (by rw [← hq.2.1, ← tg.2.1])
  have hlt : ∀ n q, L.has base n q → q < w.heap.size := fun n q hq => h.lt q hq.2.2
  have hh : ∀ n q, L.has base n q → (L.renew w.heap.size i B (.slice none 0 0)).has base n q := fun n q hq => ⟨hq.1, by show (if _ then _ else _) = _; rw [if_neg (by have := hlt n q hq; omega)]; exact hq.2.1, by show q ∈ B :: (_ ++ _); simp [hq.2.2]⟩
  have hlen : (p.setEnd i e).ends.length = p.ends.length := by simp [PortM.setEnd]
  have hBg : B ∉ [g] := fun hq => by simp at hq; have := hlt _ _ tg; omega
  refine ⟨{ blk := h.blk.upd hU (k _ _ (by decide) h.tb), ends := ⟨_, by rw [hlen]; exact hown, h2.renew hi⟩, rings := fun k' x hk => ?_, box := ⟨ys, h3.upd hU (fun q hq => k _ _ (by decide) (h.tx q hq)), fun i bs hi => ?_⟩, outs := h.outs.upd hU (fun q hq => k _ _ (by decide) (h.to q hq)), tb := hh _ _ h.tb, tl := fun q hq => hh _ _ (h.tl q hq), tx := fun q hq => hh _ _ (h.tx q hq), to := fun q hq => hh _ _ (h.to q hq), tr := fun i' hi' => ?_, small := by rw [hlen]; exact h.small, sz := h.sz, fine := fun x hx => ?_, bx := h.bx, lt := fun q hq => ?_, ge := fun q hq => ?_ }, hU.mono (fun q hq => by simp at hq; subst hq; exact tg.2.2), fun q hq => ?_⟩
  · by_cases hik : i = k'
    · subst hik
      have hx' : x = e := by simp only [PortM.setEnd, List.getElem?_set_self hi] at hk; exact (Option.some.inj hk).symm
      subst hx'
      show RefHas w2 base (if i = i then B else _) (if i = i then _ else _) p.size x.xs
      rw [if_pos rfl, if_pos rfl, hx]
      exact hR.upd hs hBg (fun q hq => by cases hq)
    · have hk' : p.ends[k']? = some x := by simp only [PortM.setEnd, List.getElem?_set_ne hik] at hk; exact hk
      have hkl := (List.getElem?_eq_some_iff.1 hk').1
      show RefHas w2 base (if k' = i then B else _) (if k' = i then _ else _) p.size x.xs
      rw [if_neg (fun e => hik e.symm), if_neg (fun e => hik e.symm)]
      exact (h.rings k' x hk').upd hU (k _ _ (by omega) (h.tr k' hkl).1) (fun q hq => k _ _ (by omega) ((h.tr k' hkl).2 q hq))
  · obtain ⟨v, e1, e2, e3⟩ := h4 i bs hi
    exact ⟨v, e1, e2.upd hU (fun q hq => k _ _ (by decide) (e3 q hq)), fun q hq => hh _ _ (e3 q hq)⟩
  · rw [hlen] at hi'
    have ht := h.tr i' hi'
    by_cases hik : i' = i
    · subst hik
      show (L.renew w.heap.size i' B (.slice none 0 0)).has base _ (if i' = i' then B else _) ∧ ∀ q, (if i' = i' then (.slice none 0 0 : Value) else _).ownBlock = some q → _
      rw [if_pos rfl, if_pos rfl]
      refine ⟨⟨hR.lt.1, ?_, ?_⟩, fun q hq => by cases hq⟩
      · show (if _ then (if _ then _ else _) else _) = _
        rw [if_pos hB, if_pos rfl]
      · show B ∈ B :: _; simp
    · show (L.renew w.heap.size i B (.slice none 0 0)).has base _ (if i' = i then B else _) ∧ ∀ q, (if i' = i then (.slice none 0 0 : Value) else _).ownBlock = some q → _
      rw [if_neg hik, if_neg hik]
      exact ⟨hh _ _ ht.1, fun q hq => hh _ _ (ht.2 q hq)⟩
  · rcases List.mem_or_eq_of_mem_set hx with h' | h'
    · exact h.fine x h'
    · rw [h']; exact hf
  · have hq' : q ∈ B :: ([] ++ L.foot) := hq
    have := hs.size
    rcases List.mem_cons.1 hq' with rfl | h'
    · have := hR.lt.2; omega
    · have := h.lt q h'; omega
  · have hq' : q ∈ B :: ([] ++ L.foot) := hq
    rcases List.mem_cons.1 hq' with rfl | h'
    · exact hR.lt.1
    · exact h.ge q h'
  · have hq' : q ∈ B :: ([] ++ L.foot) := hq
    rcases List.mem_cons.1 hq' with rfl | h'
    · exact Or.inr hB
    · exact Or.inl h'

/-- The layout behind a turn of ring i. -/
def XLay.rering (L : XLay) (n i : Nat) (v : Value) : XLay := { L with rv := fun k => if k = i then v else L.rv k, tag := fun q => if n ≤ q then 6 + 2 * i else L.tag q, foot := v.ownBlock.toList ++ L.foot }

/-- The ring of an endpoint turned. -/
theorem RPortAt.ring (h : RPortAt w base c L p) {i : Nat} {e : EndM} {xs' : List UInt8} {v' : Value} (hi : p.ends[i]? = some e) (hu : Upd (L.rb i :: (L.rv i).ownBlock.toList) w w1) (hR : RefHas w1 base (L.rb i) v' p.size xs') (hv : ∀ q, v'.ownBlock = some q → (L.rv i).ownBlock = some q ∨ w.heap.size ≤ q) :
    RPost w base c L (p.setEnd i { e with xs := xs' }) w1 := by
  obtain ⟨xs, h1, h2⟩ := h.ends
  obtain ⟨ys, h3, h4⟩ := h.box
  have hil := (List.getElem?_eq_some_iff.1 hi).1
  obtain ⟨t1, t2⟩ := h.tr i hil
  have k : ∀ n q, n ≠ 5 + 2 * i → n ≠ 6 + 2 * i → L.has base n q → q ∉ L.rb i :: (L.rv i).ownBlock.toList := fun n q hn hn' hq hq' => by
    rcases List.mem_cons.1 hq' with rfl | h'
    · exact hn (by rw [← hq.2.1, ← t1.2.1])
    · exact hn' (by rw [← hq.2.1, ← (t2 q (mem_ownP h')).2.1])
  have hlen : (p.setEnd i { e with xs := xs' }).ends.length = p.ends.length := by simp [PortM.setEnd]
  have hlt : ∀ n q, L.has base n q → q < w.heap.size := fun n q hq => h.lt q hq.2.2
  have hh : ∀ n q, L.has base n q → (L.rering w.heap.size i v').has base n q := fun n q hq => ⟨hq.1, by show (if _ then _ else _) = _; rw [if_neg (by have := hlt n q hq; omega)]; exact hq.2.1, by show q ∈ _ ++ _; simp [hq.2.2]⟩
  refine ⟨L.rering w.heap.size i v', { blk := h.blk.upd hu (k _ _ (by omega) (by omega) h.tb), ends := ⟨xs, ?_, h2.same hi rfl⟩, rings := fun k' x hk => ?_, box := ⟨ys, h3.upd hu (fun q hq => k _ _ (by omega) (by omega) (h.tx q hq)), fun i bs hi => ?_⟩, outs := h.outs.upd hu (fun q hq => k _ _ (by omega) (by omega) (h.to q hq)), tb := hh _ _ h.tb, tl := fun q hq => hh _ _ (h.tl q hq), tx := fun q hq => hh _ _ (h.tx q hq), to := fun q hq => hh _ _ (h.to q hq), tr := fun i' hi' => ?_, small := by rw [hlen]; exact h.small, sz := h.sz, fine := fun x hx => ?_, bx := h.bx, lt := fun q hq => ?_, ge := fun q hq => ?_ }, hu.mono (fun q hq => ?_), fun q hq => ?_⟩
  · rw [hlen]
    exact h1.upd hu (fun q hq => k _ _ (by omega) (by omega) (h.tl q hq))
  · by_cases hik : i = k'
    · subst hik
      have hx : x = { e with xs := xs' } := by simp only [PortM.setEnd, List.getElem?_set_self hil] at hk; exact (Option.some.inj hk).symm
      subst hx
      show RefHas w1 base (L.rb i) (if i = i then v' else _) p.size xs'
      rw [if_pos rfl]
      exact hR
    · have hk' : p.ends[k']? = some x := by simp only [PortM.setEnd, List.getElem?_set_ne hik] at hk; exact hk
      have hkl := (List.getElem?_eq_some_iff.1 hk').1
      show RefHas w1 base (L.rb k') (if k' = i then v' else _) p.size x.xs
      rw [if_neg (fun e => hik e.symm)]
      exact (h.rings k' x hk').upd hu (k _ _ (by omega) (by omega) (h.tr k' hkl).1) (fun q hq => k _ _ (by omega) (by omega) ((h.tr k' hkl).2 q hq))
  · obtain ⟨v, e1, e2, e3⟩ := h4 i bs hi
    exact ⟨v, e1, e2.upd hu (fun q hq => k _ _ (by omega) (by omega) (e3 q hq)), fun q hq => hh _ _ (e3 q hq)⟩
  · rw [hlen] at hi'
    have ht := h.tr i' hi'
    refine ⟨hh _ _ ht.1, fun q hq => ?_⟩
    have hq' : (if i' = i then v' else L.rv i').ownBlock = some q := hq
    by_cases hik : i' = i
    · subst hik
      rw [if_pos rfl] at hq'
      rcases hv q hq' with h' | h'
      · exact hh _ _ (ht.2 q h')
      · refine ⟨(hR.vlt q hq').1, ?_, ?_⟩
        · show (if _ then _ else _) = _; rw [if_pos h']
        · show q ∈ _ ++ _; simp [hq']
    · rw [if_neg hik] at hq'
      exact hh _ _ (ht.2 q hq')
  · rcases List.mem_or_eq_of_mem_set hx with h' | h'
    · exact h.fine x h'
    · rw [h']; exact h.fine e (List.mem_of_getElem? hi)
  · have hq' : q ∈ v'.ownBlock.toList ++ L.foot := hq
    rcases List.mem_append.1 hq' with h' | h'
    · exact (hR.vlt q (mem_ownP h')).2
    · exact Nat.lt_of_lt_of_le (h.lt q h') hu.size
  · have hq' : q ∈ v'.ownBlock.toList ++ L.foot := hq
    rcases List.mem_append.1 hq' with h' | h'
    · exact (hR.vlt q (mem_ownP h')).1
    · exact h.ge q h'
  · rcases List.mem_cons.1 hq with rfl | h'
    · exact t1.2.2
    · exact (t2 q (mem_ownP h')).2.2
  · have hq' : q ∈ v'.ownBlock.toList ++ L.foot := hq
    rcases List.mem_append.1 hq' with h' | h'
    · rcases hv q (mem_ownP h') with h'' | h''
      · exact Or.inl (t2 q h'').2.2
      · exact Or.inr h''
    · exact Or.inl h'

/-- The layout behind new outputs. -/
def XLay.reout (L : XLay) (n : Nat) (vo' : Value) : XLay := { L with vo := vo', tag := fun q => if n ≤ q then 3 else L.tag q, foot := vo'.ownBlock.toList ++ L.foot }

theorem RPortAt.reout (h : RPortAt w base c L p) {vo' : Value} {outs' : List OutM} (hu : Upd L.vo.ownBlock.toList w w1) (hown : Own w1 base 51 10 vo' outs'.length (outsC outs')) (hblk : ∀ q, vo'.ownBlock = some q → L.vo.ownBlock = some q ∨ w.heap.size ≤ q)
    (hw2 : w2 = w1.setCell ⟨c, 4, none⟩ vo') : RPortAt w2 base c (L.reout w.heap.size vo') { p with outs := outs' } ∧ Upd L.foot w w2 ∧ Within w (L.reout w.heap.size vo').foot L.foot := by
  subst hw2
  have hbs := h.bsz
  have k : ∀ n q, n ≠ 3 → L.has base n q → q ∉ L.vo.ownBlock.toList := fun n q hn hq hq' => hn (by rw [← hq.2.1, ← (h.to q (mem_ownP hq')).2.1])
  have hlt : ∀ n q, L.has base n q → q < w.heap.size := fun n q hq => h.lt q hq.2.2
  have hs : Upd [c] w1 (w1.setCell ⟨c, 4, none⟩ vo') := (Upd.refl _ _).setCell (Or.inl (by simp)) _
  have kb : ∀ n q, n ≠ 0 → L.has base n q → q ∉ [c] := fun n q hn hq hq' => by simp at hq'; subst hq'; exact hn (by rw [← hq.2.1, ← h.tb.2.1])
  have hh : ∀ n q, L.has base n q → (L.reout w.heap.size vo').has base n q := fun n q hq => ⟨hq.1, by show (if _ then _ else _) = _; rw [if_neg (by have := hlt n q hq; omega)]; exact hq.2.1, by show q ∈ _ ++ _; simp [hq.2.2]⟩
  have hob : ∀ q, vo'.ownBlock = some q → q ≠ c := fun q hq e => by
    rcases hblk q hq with h' | h'
    · exact (h.to q h').ne h.tb (by decide) e
    · have := hlt _ _ h.tb; omega
  obtain ⟨xs, h1, h2⟩ := h.ends
  obtain ⟨ys, h3, h4⟩ := h.box
  refine ⟨{ blk := ?_, ends := ⟨xs, ?_, h2⟩, rings := fun i e hi => ?_, box := ⟨ys, ?_, fun i bs hi => ?_⟩, outs := ?_, tb := hh _ _ h.tb, tl := fun q hq => hh _ _ (h.tl q hq), tx := fun q hq => hh _ _ (h.tx q hq), to := fun q hq => ?_, tr := fun i hi => ⟨hh _ _ (h.tr i hi).1, fun q hq => hh _ _ ((h.tr i hi).2 q hq)⟩, small := h.small, sz := h.sz, fine := h.fine, bx := h.bx, lt := fun q hq => ?_, ge := fun q hq => ?_ }, ?_, ?_⟩
  · exact ((h.blk.upd hu (k _ _ (by decide) h.tb)).set 4 vo').eq rfl
  · exact (h1.upd hu (fun q hq => k _ _ (by decide) (h.tl q hq))).upd hs (fun q hq => kb _ _ (by decide) (h.tl q hq))
  · have hil := (List.getElem?_eq_some_iff.1 hi).1
    exact ((h.rings i e hi).upd hu (k _ _ (by omega) (h.tr i hil).1) (fun q hq => k _ _ (by omega) ((h.tr i hil).2 q hq))).upd hs (kb _ _ (by omega) (h.tr i hil).1) (fun q hq => kb _ _ (by omega) ((h.tr i hil).2 q hq))
  · exact (h3.upd hu (fun q hq => k _ _ (by decide) (h.tx q hq))).upd hs (fun q hq => kb _ _ (by decide) (h.tx q hq))
  · obtain ⟨v, e1, e2, e3⟩ := h4 i bs hi
    exact ⟨v, e1, (e2.upd hu (fun q hq => k _ _ (by decide) (e3 q hq))).upd hs (fun q hq => kb _ _ (by decide) (e3 q hq)), fun q hq => hh _ _ (e3 q hq)⟩
  · exact hown.upd hs (fun q hq => by simp; exact hob q hq)
  · have hq' : vo'.ownBlock = some q := hq
    rcases hblk q hq' with h' | h'
    · exact hh _ _ (h.to q h')
    · refine ⟨by omega, ?_, ?_⟩
      · show (if _ then _ else _) = _; rw [if_pos h']
      · show q ∈ _ ++ _; simp [hq']
  · have hq' : q ∈ vo'.ownBlock.toList ++ L.foot := hq
    have hsz := hs.size
    rcases List.mem_append.1 hq' with h' | h'
    · have := (hown.lt q (mem_ownP h')).2; omega
    · have := h.lt q h'; have := hu.size; omega
  · have hq' : q ∈ vo'.ownBlock.toList ++ L.foot := hq
    rcases List.mem_append.1 hq' with h' | h'
    · exact (hown.lt q (mem_ownP h')).1
    · exact h.ge q h'
  · exact (hu.mono (fun q hq => (h.to q (mem_ownP hq)).2.2)).trans_same (hs.mono (fun q hq => by simp at hq; subst hq; exact h.tb.2.2))
  · intro q hq
    have hq' : q ∈ vo'.ownBlock.toList ++ L.foot := hq
    rcases List.mem_append.1 hq' with h' | h'
    · rcases hblk q (mem_ownP h') with h'' | h''
      · exact Or.inl (h.to q h'').2.2
      · exact Or.inr h''
    · exact Or.inl h'
end

end Go.Proofs.Ytnbhgfnjnccakaa
