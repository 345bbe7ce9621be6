/- A port and the document's one, side by side in one memory. -/
import Derived.Test.YtnbhgfnjnccakaaRP3
import Derived.Test.YtnbhgfnjnccakaaRP6
namespace Go.Proofs.Ytnbhgfnjnccakaa
open Go Go.RowKit
set_option linter.unusedVariables false

structure Two (w0 w : World) (b : Nat) (l : PLay) (p : PortM) (c : Nat) (L : XLay) (y : PortM) : Prop where
  P : PortAt w w0.heap.size b l p
  Y : RPortAt w w0.heap.size c L y
  d : ∀ q, q ∈ l.foot → q ∉ L.foot
  U : Upd [] w0 w

section
variable {w0 w w1 : World} {b c : Nat} {l : PLay} {L : XLay} {p p' y y' : PortM}

theorem RPortAt.below (h : RPortAt w w0.heap.size c L y) (hp : Upd L.foot w w1) (hU : Upd [] w0 w) : Upd [] w0 w1 :=
  hU.trans (fun q hq => Or.inr (h.ge q hq)) hp

theorem Two.up (h : Two w0 w b l p c L y) (hu : Upd [] w w1) : Two w0 w1 b l p c L y :=
  ⟨h.P.upd hu (by simp), h.Y.upd hu (by simp), h.d, h.U.trans_same hu⟩

/-- The port is called. -/
theorem Two.port (h : Two w0 w b l p c L y) (hp : PPost w w0.heap.size b l p' w1) : ∃ l', Two w0 w1 b l' p' c L y ∧ Upd l.foot w w1 ∧ Within w l'.foot l.foot := by
  obtain ⟨l', hP, hU, hW⟩ := hp
  refine ⟨l', ⟨hP, h.Y.upd hU (fun q hq => h.d q hq), fun q hq hq' => ?_, h.P.below hU h.U (Nat.le_refl _)⟩, hU, hW⟩
  rcases hW q hq with h' | h'
  · exact h.d q h' hq'
  · have := h.Y.lt q hq'; omega
theorem Two.portS (h : Two w0 w b l p c L y) (hp : PSame w w0.heap.size b l p' w1) : Two w0 w1 b l p' c L y :=
  ⟨hp.1, h.Y.upd hp.2 (fun q hq => h.d q hq), h.d, h.P.below hp.2 h.U (Nat.le_refl _)⟩

/-- The document's one is called. -/
theorem Two.ref (h : Two w0 w b l p c L y) (hp : RPost w w0.heap.size c L y' w1) : ∃ L', Two w0 w1 b l p c L' y' ∧ Upd L.foot w w1 ∧ Within w L'.foot L.foot := by
  obtain ⟨L', hP, hU, hW⟩ := hp
  refine ⟨L', ⟨h.P.upd hU (fun q hq hq' => h.d q hq' hq), hP, fun q hq hq' => ?_, h.Y.below hU h.U⟩, hU, hW⟩
  rcases hW q hq' with h' | h'
  · exact h.d q hq h'
  · have := h.P.lt q hq; omega
end

theorem XLay.has.mono {L : XLay} {base base' n q : Nat} (h : L.has base n q) (hb : base' ≤ base) : L.has base' n q := ⟨Nat.le_trans hb h.1, h.2⟩
theorem RefHas.mono {w : World} {base base' b size : Nat} {v : Value} {xs : List UInt8} (h : RefHas w base b v size xs) (hb : base' ≤ base) : RefHas w base' b v size xs := by
  obtain ⟨r, h1, h2, h3⟩ := h
  exact ⟨r, h1.mono hb, h2, h3⟩
theorem RPortAt.mono {w : World} {base base' c : Nat} {L : XLay} {p : PortM} (h : RPortAt w base c L p) (hb : base' ≤ base) : RPortAt w base' c L p := by
  obtain ⟨xs, h1, h2⟩ := h.ends
  obtain ⟨ys, h3, h4⟩ := h.box
  exact { h with
    ends := ⟨xs, h1.mono hb, h2⟩
    rings := fun i e hi => (h.rings i e hi).mono hb
    box := ⟨ys, h3.mono hb, fun i bs hi => by
      obtain ⟨v, e1, e2, e3⟩ := h4 i bs hi
      exact ⟨v, e1, e2, fun q hq => (e3 q hq).mono hb⟩⟩
    outs := h.outs.mono hb
    tb := h.tb.mono hb
    tl := fun q hq => (h.tl q hq).mono hb
    tx := fun q hq => (h.tx q hq).mono hb
    to := fun q hq => (h.to q hq).mono hb
    tr := fun i hi => ⟨(h.tr i hi).1.mono hb, fun q hq => ((h.tr i hi).2 q hq).mono hb⟩
    ge := fun q hq => Nat.le_trans hb (h.ge q hq) }

/-- Both ports made one behind the other. -/
theorem Two.made {w w1 w2 : World} {b c : Nat} {l : PLay} {L : XLay} {p y : PortM} (h1 : PortAt w1 w.heap.size b l p) (k1 : Upd [] w w1) (h2 : RPortAt w2 w1.heap.size c L y) (k2 : Upd [] w1 w2) : Two w w2 b l p c L y :=
  ⟨h1.upd k2 (by simp), h2.mono k1.size, fun q hq hq' => by have := h1.lt q hq; have := h2.ge q hq'; omega, k1.trans_same k2⟩

end Go.Proofs.Ytnbhgfnjnccakaa
