/- The box of a port turned, for the port and the document's one (written by gen_rebox.py); a slice without its first. -/
import Derived.Test.YtnbhgfnjnccakaaRP1
import Derived.Test.YtnbhgfnjnccakaaPort11
namespace Go.Proofs.Ytnbhgfnjnccakaa
open Go Go.RowKit
set_option linter.unusedVariables false

theorem Own.tail {w : World} {base e g off n cap : Nat} {x : Value} {xs : List Value} (h : Own w base e 1 (.slice (some ⟨g, off, none⟩) (n + 1) cap) (n + 1) (x :: xs)) : Own w base e 1 (.slice (some ⟨g, off + 1, none⟩) n (cap - 1)) n xs := by
  obtain ⟨hl, h⟩ := h
  refine ⟨by simp at hl; omega, ?_⟩
  rcases h with ⟨hv, _⟩ | ⟨g', off', cap', pre, rest, hv, hb, hg, hp, hr, hn, hc⟩
  · cases hv
  · cases hv
    refine Or.inr ⟨g, off + 1, cap - 1, pre ++ [x], rest, rfl, hb, ?_, by simp [hp], ?_, by omega, by omega⟩
    · rw [List.append_assoc, List.singleton_append]; exact hg
    · omega

/-- The layout behind a new box. -/
def PLay.rebox (l : PLay) (n : Nat) (news : List Nat) (v : Value) : PLay := { l with vb := v, tag := fun q => if n ≤ q then (if v.ownBlock = some q then 2 else 4) else l.tag q, foot := v.ownBlock.toList ++ (news ++ l.foot) }

theorem PortAt.rebox {w wa w1 w2 : World} {base b : Nat} {l : PLay} {p : PortM} (h : PortAt w base b l p) {v' : Value} {ys' : List Value} {box' : List (List UInt8)} {news : List Nat} (hu0 : Upd [] w wa) (hu : Upd l.vb.ownBlock.toList wa w1)
    (hown : OwnE w1 base 35 1 v' box'.length ys') (hblk : ∀ q, v'.ownBlock = some q → l.vb.ownBlock = some q ∨ w.heap.size ≤ q)
    (hel : ∀ (i : Nat) (bs : List UInt8), box'[i]? = some bs → bs.length ≤ 512 → ∃ v : Value, ys'[i]? = some v ∧ Rd w1 v bs ∧ ∀ q, v.ownBlock = some q → l.has base 4 q ∨ q ∈ news)
    (hnews : ∀ q, q ∈ news → base ≤ q ∧ w.heap.size ≤ q ∧ q < w1.heap.size ∧ v'.ownBlock ≠ some q) (hbx : box'.length ≤ 8) (hw2 : w2 = w1.setCell ⟨b, 2, none⟩ v') :
    PortAt w2 base b (l.rebox w.heap.size news v') { p with box := box' } ∧ Upd l.foot w w2 ∧ Within w (l.rebox w.heap.size news v').foot l.foot := by
  subst hw2
  have hbs : base ≤ w.heap.size := (by have := h.tb.1; have := h.blk.lt; omega)
  have hU : Upd l.vb.ownBlock.toList w w1 := (hu0.mono (by simp)).trans_same hu
  have k : ∀ n q, n ≠ 2 → l.has base n q → q ∉ l.vb.ownBlock.toList := fun n q hn hq hq' => hn (by rw [← hq.2.1, ← (h.tx q (mem_ownP hq')).2.1])
  have hlt : ∀ n q, l.has base n q → q < w.heap.size := fun n q hq => h.lt q hq.2.2
  have hs : Upd [b] w1 (w1.setCell ⟨b, 2, none⟩ v') := (Upd.refl _ _).setCell (Or.inl (by simp)) _
  have kb : ∀ n q, n ≠ 0 → l.has base n q → q ∉ [b] := fun n q hn hq hq' => by simp at hq'; subst hq'; exact hn (by rw [← hq.2.1, ← h.tb.2.1])
  have hh : ∀ n q, l.has base n q → (l.rebox w.heap.size news v').has base n q := fun n q hq => ⟨hq.1, by show (if _ then (if _ then _ else _) else _) = _; rw [if_neg (by have := hlt n q hq; omega)]; exact hq.2.1, by show q ∈ _ ++ _; simp [hq.2.2]⟩
  have hbl := hlt _ _ h.tb
  have hob : ∀ q, v'.ownBlock = some q → q ≠ b := fun q hq e => by
    rcases hblk q hq with h' | h'
    · exact (h.tx q h').ne h.tb (by decide) e
    · omega
  obtain ⟨xs, h1, h2⟩ := h.ends
  refine ⟨{ blk := ?_, ends := ⟨xs, ?_, h2⟩, rings := fun i e hi => ?_, box := ⟨ys', hown.upd hs (fun q hq => by simp; exact hob q hq), fun i bs hi hsz => ?_⟩, outs := ?_, tb := hh _ _ h.tb, tl := fun q hq => hh _ _ (h.tl q hq), tx := fun q hq => ?_, to := fun q hq => hh _ _ (h.to q hq), tr := fun i hi => ⟨hh _ _ (h.tr i hi).1, hh _ _ (h.tr i hi).2⟩, small := h.small, cl := h.cl, fine := h.fine, bx := hbx, lt := fun q hq => ?_, ge := fun q hq => ?_ }, ?_, ?_⟩
  · exact ((h.blk.upd hU (k _ _ (by decide) h.tb)).set 2 v').eq rfl
  · exact (h1.upd hU (fun q hq => k _ _ (by decide) (h.tl q hq))).upd hs (fun q hq => kb _ _ (by decide) (h.tl q hq))
  · skip
    have hil := (List.getElem?_eq_some_iff.1 hi).1
    exact ((h.rings i e hi).upd hU (k _ _ (by omega) (h.tr i hil).1) (k _ _ (by omega) (h.tr i hil).2)).upd hs (kb _ _ (by omega) (h.tr i hil).1) (kb _ _ (by omega) (h.tr i hil).2)
  · obtain ⟨v, e1, e2, e3⟩ := hel i bs hi hsz
    refine ⟨v, e1, e2.upd hs (fun q hq => ?_), fun q hq => ?_⟩
    · rcases e3 q hq with h' | h'
      · exact kb _ _ (by decide) h'
      · have := (hnews q h').2.1; simp; omega
    · rcases e3 q hq with h' | h'
      · exact hh _ _ h'
      · obtain ⟨n1, n2, n3, n4⟩ := hnews q h'
        refine ⟨n1, ?_, ?_⟩
        · show (if _ then (if _ then _ else _) else _) = _; rw [if_pos n2, if_neg n4]
        · show q ∈ _ ++ (_ ++ _); simp [h']
  · exact (h.outs.upd hU (fun q hq => k _ _ (by decide) (h.to q hq))).upd hs (fun q hq => kb _ _ (by decide) (h.to q hq))
  · have hq' : v'.ownBlock = some q := hq
    rcases hblk q hq' with h' | h'
    · exact hh _ _ (h.tx q h')
    · refine ⟨by omega, ?_, ?_⟩
      · show (if _ then (if _ then _ else _) else _) = _; rw [if_pos h', if_pos hq']
      · show q ∈ _ ++ _; simp [hq']
  · have hq' : q ∈ v'.ownBlock.toList ++ (news ++ l.foot) := hq
    have hsz := hs.size
    rcases List.mem_append.1 hq' with h' | h'
    · have := (hown.lt q (mem_ownP h')).2; omega
    · rcases List.mem_append.1 h' with h' | h'
      · have := (hnews q h').2.2.1; omega
      · have := h.lt q h'; have := hU.size; omega
  · have hq' : q ∈ v'.ownBlock.toList ++ (news ++ l.foot) := hq
    rcases List.mem_append.1 hq' with h' | h'
    · exact (hown.lt q (mem_ownP h')).1
    · rcases List.mem_append.1 h' with h' | h'
      · exact (hnews q h').1
      · exact h.ge q h'
  · exact (hU.mono (fun q hq => (h.tx q (mem_ownP hq)).2.2)).trans_same (hs.mono (fun q hq => by simp at hq; subst hq; exact h.tb.2.2))
  · intro q hq
    have hq' : q ∈ v'.ownBlock.toList ++ (news ++ l.foot) := hq
    rcases List.mem_append.1 hq' with h' | h'
    · rcases hblk q (mem_ownP h') with h'' | h''
      · exact Or.inl (h.tx q h'').2.2
      · exact Or.inr h''
    · rcases List.mem_append.1 h' with h' | h'
      · exact Or.inr (hnews q h').2.1
      · exact Or.inl h'

/-- The layout behind a new box. -/
def XLay.rebox (L : XLay) (n : Nat) (news : List Nat) (v : Value) : XLay := { L with vx := v, tag := fun q => if n ≤ q then (if v.ownBlock = some q then 2 else 4) else L.tag q, foot := v.ownBlock.toList ++ (news ++ L.foot) }

theorem RPortAt.rebox {w wa w1 w2 : World} {base c : Nat} {L : XLay} {p : PortM} (h : RPortAt w base c L p) {v' : Value} {ys' : List Value} {box' : List (List UInt8)} {news : List Nat} (hu0 : Upd [] w wa) (hu : Upd L.vx.ownBlock.toList wa w1)
    (hown : OwnE w1 base 35 1 v' box'.length ys') (hblk : ∀ q, v'.ownBlock = some q → L.vx.ownBlock = some q ∨ w.heap.size ≤ q)
    (hel : ∀ (i : Nat) (bs : List UInt8), box'[i]? = some bs → ∃ v : Value, ys'[i]? = some v ∧ Rd w1 v bs ∧ ∀ q, v.ownBlock = some q → L.has base 4 q ∨ q ∈ news)
    (hnews : ∀ q, q ∈ news → base ≤ q ∧ w.heap.size ≤ q ∧ q < w1.heap.size ∧ v'.ownBlock ≠ some q) (hbx : box'.length ≤ 8) (hw2 : w2 = w1.setCell ⟨c, 3, none⟩ v') :
    RPortAt w2 base c (L.rebox w.heap.size news v') { p with box := box' } ∧ Upd L.foot w w2 ∧ Within w (L.rebox w.heap.size news v').foot L.foot := by
  subst hw2
  have hbs : base ≤ w.heap.size := h.bsz
  have hU : Upd L.vx.ownBlock.toList w w1 := (hu0.mono (by simp)).trans_same hu
  have k : ∀ n q, n ≠ 2 → L.has base n q → q ∉ L.vx.ownBlock.toList := fun n q hn hq hq' => hn (by rw [← hq.2.1, ← (h.tx q (mem_ownP hq')).2.1])
  have hlt : ∀ n q, L.has base n q → q < w.heap.size := fun n q hq => h.lt q hq.2.2
  have hs : Upd [c] w1 (w1.setCell ⟨c, 3, none⟩ v') := (Upd.refl _ _).setCell (Or.inl (by simp)) _
  have kb : ∀ n q, n ≠ 0 → L.has base n q → q ∉ [c] := fun n q hn hq hq' => by simp at hq'; subst hq'; exact hn (by rw [← hq.2.1, ← h.tb.2.1])
  have hh : ∀ n q, L.has base n q → (L.rebox w.heap.size news v').has base n q := fun n q hq => ⟨hq.1, by show (if _ then (if _ then _ else _) else _) = _; rw [if_neg (by have := hlt n q hq; omega)]; exact hq.2.1, by show q ∈ _ ++ _; simp [hq.2.2]⟩
  have hbl := hlt _ _ h.tb
  have hob : ∀ q, v'.ownBlock = some q → q ≠ c := fun q hq e => by
    rcases hblk q hq with h' | h'
    · exact (h.tx q h').ne h.tb (by decide) e
    · omega
  obtain ⟨xs, h1, h2⟩ := h.ends
  refine ⟨{ blk := ?_, ends := ⟨xs, ?_, h2⟩, rings := fun i e hi => ?_, box := ⟨ys', hown.upd hs (fun q hq => by simp; exact hob q hq), fun i bs hi => ?_⟩, outs := ?_, tb := hh _ _ h.tb, tl := fun q hq => hh _ _ (h.tl q hq), tx := fun q hq => ?_, to := fun q hq => hh _ _ (h.to q hq), tr := fun i hi => ⟨hh _ _ (h.tr i hi).1, fun q hq => hh _ _ ((h.tr i hi).2 q hq)⟩, small := h.small, sz := h.sz, fine := h.fine, bx := hbx, lt := fun q hq => ?_, ge := fun q hq => ?_ }, ?_, ?_⟩
  · exact ((h.blk.upd hU (k _ _ (by decide) h.tb)).set 3 v').eq rfl
  · exact (h1.upd hU (fun q hq => k _ _ (by decide) (h.tl q hq))).upd hs (fun q hq => kb _ _ (by decide) (h.tl q hq))
  · skip
    have hil := (List.getElem?_eq_some_iff.1 hi).1
    exact ((h.rings i e hi).upd hU (k _ _ (by omega) (h.tr i hil).1) (fun q hq => k _ _ (by omega) ((h.tr i hil).2 q hq))).upd hs (kb _ _ (by omega) (h.tr i hil).1) (fun q hq => kb _ _ (by omega) ((h.tr i hil).2 q hq))
  · obtain ⟨v, e1, e2, e3⟩ := hel i bs hi
    refine ⟨v, e1, e2.upd hs (fun q hq => ?_), fun q hq => ?_⟩
    · rcases e3 q hq with h' | h'
      · exact kb _ _ (by decide) h'
      · have := (hnews q h').2.1; simp; omega
    · rcases e3 q hq with h' | h'
      · exact hh _ _ h'
      · obtain ⟨n1, n2, n3, n4⟩ := hnews q h'
        refine ⟨n1, ?_, ?_⟩
        · show (if _ then (if _ then _ else _) else _) = _; rw [if_pos n2, if_neg n4]
        · show q ∈ _ ++ (_ ++ _); simp [h']
  · exact (h.outs.upd hU (fun q hq => k _ _ (by decide) (h.to q hq))).upd hs (fun q hq => kb _ _ (by decide) (h.to q hq))
  · have hq' : v'.ownBlock = some q := hq
    rcases hblk q hq' with h' | h'
    · exact hh _ _ (h.tx q h')
    · refine ⟨by omega, ?_, ?_⟩
      · show (if _ then (if _ then _ else _) else _) = _; rw [if_pos h', if_pos hq']
      · show q ∈ _ ++ _; simp [hq']
  · have hq' : q ∈ v'.ownBlock.toList ++ (news ++ L.foot) := hq
    have hsz := hs.size
    rcases List.mem_append.1 hq' with h' | h'
    · have := (hown.lt q (mem_ownP h')).2; omega
    · rcases List.mem_append.1 h' with h' | h'
      · have := (hnews q h').2.2.1; omega
      · have := h.lt q h'; have := hU.size; omega
  · have hq' : q ∈ v'.ownBlock.toList ++ (news ++ L.foot) := hq
    rcases List.mem_append.1 hq' with h' | h'
    · exact (hown.lt q (mem_ownP h')).1
    · rcases List.mem_append.1 h' with h' | h'
      · exact (hnews q h').1
      · exact h.ge q h'
  · exact (hU.mono (fun q hq => (h.tx q (mem_ownP hq)).2.2)).trans_same (hs.mono (fun q hq => by simp at hq; subst hq; exact h.tb.2.2))
  · intro q hq
    have hq' : q ∈ v'.ownBlock.toList ++ (news ++ L.foot) := hq
    rcases List.mem_append.1 hq' with h' | h'
    · rcases hblk q (mem_ownP h') with h'' | h''
      · exact Or.inl (h.tx q h'').2.2
      · exact Or.inr h''
    · rcases List.mem_append.1 h' with h' | h'
      · exact Or.inr (hnews q h').2.1
      · exact Or.inl h'

end Go.Proofs.Ytnbhgfnjnccakaa
