/- The walk of the port's Clone. -/
import Derived.Test.YtnbhgfnjnccakaaPort11
namespace Go.Proofs.Ytnbhgfnjnccakaa
open Go Go.RowKit
set_option linter.unusedVariables false

theorem OwnE.src {P : Program} {w : World} {base e size n : Nat} {v : Value} {xs : List Value} {tx e' : TypeId} (h : OwnE w base e size v n xs) (hk : P.underlying tx = some (.slice e')) (h1 : ∀ u ∈ xs, u.oneCell' = true) : Src P size tx v n xs w := by
  rcases h with h | ⟨rfl, rfl, g, off, rfl, _, _⟩
  · rcases h.2 with ⟨rfl, rfl⟩ | ⟨g, off, cap, pre, rest, rfl, _⟩
    · have hx : xs = [] := List.eq_nil_of_length_eq_zero (by have := h.1; omega)
      subst hx
      exact Src.ofNil _ hk 0
    · exact Src.ofSlice _ hk ⟨g, off, none⟩ n cap xs h.1 (fun j u hj => by rw [addr_add]; exact h.cell rfl hj) h1
  · exact Src.ofSlice _ hk ⟨g, off, none⟩ 0 0 [] (by simp) (fun j u hj => by simp at hj) (fun u hu => by cases hu)

theorem endC_one (rb : Nat) (e : EndM) : ∀ u ∈ endC rb e, u.oneCell' = true := by
  intro u hu
  simp [endC] at hu
  rcases hu with rfl | rfl | rfl | rfl | rfl | rfl <;> rfl
theorem LayE.one {rb : Nat → Nat} {xs : List Value} {es : List EndM} (h : LayE rb xs es) : ∀ u ∈ xs, u.oneCell' = true := by
  intro u hu
  obtain ⟨k, hk, rfl⟩ := List.getElem_of_mem hu
  have hl := h.1
  have hi : k / 6 < es.length := by omega
  have hj : k % 6 < (endC (rb (k / 6)) es[k / 6]).length := by show k % 6 < 6; omega
  have := h.2 (k / 6) es[k / 6] (List.getElem?_eq_getElem hi) (k % 6) _ (List.getElem?_eq_getElem hj)
  rw [show k / 6 * 6 + k % 6 = k by omega, List.getElem?_eq_getElem hk] at this
  rw [Option.some.inj this]
  exact endC_one _ _ _ (List.getElem_mem _)

def PortM.forget (p : PortM) : PortM := { p with box := p.box.map (fun _ => List.replicate 513 0) }
def PLay.forget (l : PLay) : PLay := { l with foot := l.foot.filter (fun q => l.tag q != 4) }

section
variable {w w1 : World} {base b : Nat} {l : PLay} {p : PortM}

/-- A port whose box's bytes are another's. -/
theorem PortAt.forget (h : PortAt w base b l p) : PortAt w base b l.forget p.forget := by
  have hh : ∀ n q, n ≠ 4 → l.has base n q → l.forget.has base n q := fun n q hn hq => ⟨hq.1, hq.2.1, by show q ∈ l.foot.filter _; rw [List.mem_filter]; exact ⟨hq.2.2, by rw [hq.2.1]; simpa using hn⟩⟩
  obtain ⟨ys, h3, _⟩ := h.box
  exact { h with
    box := ⟨ys, by rw [show p.forget.box.length = p.box.length from List.length_map ..]; exact h3, fun i bs hi hsz => by
      exfalso
      have : bs ∈ p.forget.box := List.mem_of_getElem? hi
      obtain ⟨x, _, rfl⟩ := List.mem_map.1 this
      rw [List.length_replicate] at hsz
      omega⟩
    tb := hh _ _ (by decide) h.tb
    tl := fun q hq => hh _ _ (by decide) (h.tl q hq)
    tx := fun q hq => hh _ _ (by decide) (h.tx q hq)
    to := fun q hq => hh _ _ (by decide) (h.to q hq)
    tr := fun i hi => ⟨hh _ _ (by omega) (h.tr i hi).1, hh _ _ (by omega) (h.tr i hi).2⟩
    bx := by rw [show p.forget.box.length = p.box.length from List.length_map ..]; exact h.bx
    lt := fun q hq => h.lt q (List.mem_filter.1 hq).1
    ge := fun q hq => h.ge q (List.mem_filter.1 hq).1 }

def RClonePost (w : World) (size : Nat) (xs : List UInt8) (e : Ending) (w' : World) : Prop :=
  ∃ B G, e = .returned (.pointer (some ⟨B, 0, none⟩)) ∧ w.heap.size ≤ B ∧ w.heap.size ≤ G ∧ RingHas w' B G size xs ∧ Upd [] w w'
theorem rh_clone {b g size : Nat} {xs : List UInt8} (h : RingHas w b g size xs) : Calls Try.prog 74 #[.pointer (some ⟨b, 0, none⟩)] w (RClonePost w size xs) := by
  obtain ⟨r, h1, h2, h3⟩ := h
  refine (ring_clone h1).mono ?_
  rintro e w' ⟨B, G, rfl, k1, k2, k3, k4⟩
  exact ⟨B, G, rfl, k1, k2, ⟨r, k3, h2, h3⟩, k4⟩
end

/-- A clone while it is being made: the first k endpoints have rings of their own. -/
structure PClo (wr : World) (B c gl cp n k clients size : Nat) (vb vo : Value) (es : List EndM) (rbo rb g tag : Nat → Nat) (foot : List Nat) : Prop where
  blk : Blk wr c 100 [.int .i64 clients, .slice (some ⟨gl, 0, none⟩) n cp, vb, vo, .bool true]
  ends : ∃ xs, Own wr B 107 6 (.slice (some ⟨gl, 0, none⟩) n cp) n xs ∧ LayE (fun i => if i < k then rb i else rbo i) xs es
  rings : ∀ i e, i < k → es[i]? = some e → RingHas wr (rb i) (g i) size e.xs
  tb : B ≤ c ∧ tag c = 0 ∧ c ∈ foot
  tl : B ≤ gl ∧ tag gl = 1 ∧ gl ∈ foot
  tr : ∀ i, i < k → (B ≤ rb i ∧ tag (rb i) = 5 + 2 * i ∧ rb i ∈ foot) ∧ (B ≤ g i ∧ tag (g i) = 6 + 2 * i ∧ g i ∈ foot)
  lt : ∀ q, q ∈ foot → q < wr.heap.size
  ge : ∀ q, q ∈ foot → B ≤ q

section
variable {wr w1 : World} {B c gl cp n k clients size : Nat} {vb vo : Value} {es : List EndM} {rbo rb g tag : Nat → Nat} {foot : List Nat}

theorem PClo.upd (h : PClo wr B c gl cp n k clients size vb vo es rbo rb g tag foot) (hu : Upd [] wr w1) : PClo w1 B c gl cp n k clients size vb vo es rbo rb g tag foot := by
  obtain ⟨xs, h1, h2⟩ := h.ends
  exact { h with blk := h.blk.upd hu (by simp), ends := ⟨xs, h1.upd hu (by simp), h2⟩, rings := fun i e hi he => (h.rings i e hi he).upd hu (by simp) (by simp), lt := fun q hq => Nat.lt_of_lt_of_le (h.lt q hq) hu.size }

/-- A cell of the clone itself is written. -/
theorem PClo.putc (h : PClo wr B c gl cp n k clients size vb vo es rbo rb g tag foot) {vb' vo' u : Value} {i : Nat} (hs : [.int .i64 clients, .slice (some ⟨gl, 0, none⟩) n cp, vb', vo', .bool true] = ([.int .i64 clients, .slice (some ⟨gl, 0, none⟩) n cp, vb, vo, .bool true] : List Value).set i u) :
    PClo (wr.setCell ⟨c, i, none⟩ u) B c gl cp n k clients size vb' vo' es rbo rb g tag foot := by
  obtain ⟨xs, h1, h2⟩ := h.ends
  have hu : Upd [c] wr (wr.setCell ⟨c, i, none⟩ u) := (Upd.refl _ _).setCell (a := ⟨c, i, none⟩) (Or.inl (by simp)) _
  have ht := h.tb.2.1
  exact { h with
    blk := (h.blk.set i u).eq hs.symm
    ends := ⟨xs, h1.upd hu (fun q hq => by cases hq; simp; intro e; have := h.tl.2.1; rw [e] at this; omega), h2⟩
    rings := fun i e hi he => (h.rings i e hi he).upd hu (by simp; intro e; have := (h.tr i hi).1.2.1; rw [e] at this; omega) (by simp; intro e; have := (h.tr i hi).2.2.1; rw [e] at this; omega)
    lt := fun q hq => Nat.lt_of_lt_of_le (h.lt q hq) hu.size }

/-- One more ring. -/
theorem PClo.step {R G : Nat} {e : EndM} (h : PClo wr B c gl cp n k clients size vb vo es rbo rb g tag foot) (hn : n = es.length) (he : es[k]? = some e) (hu : Upd [] wr w1) (hB : wr.heap.size ≤ R) (hG : wr.heap.size ≤ G) (hR : RingHas w1 R G size e.xs) (hbs : B ≤ wr.heap.size) :
    PClo (w1.setCell ⟨gl, k * 6, none⟩ (.pointer (some ⟨R, 0, none⟩))) B c gl cp n (k + 1) clients size vb vo es rbo (fun i => if i = k then R else rb i) (fun i => if i = k then G else g i) (fun q => if q = R then 5 + 2 * k else if q = G then 6 + 2 * k else tag q) (R :: G :: foot) := by
  have h1 := h.upd hu
  have hlt := h.lt
  have hBG := hR.ne
  have hRl := hR.lt
  have hkl := (List.getElem?_eq_some_iff.1 he).1
  have old : ∀ q, q ∈ foot → q ≠ R ∧ q ≠ G := fun q hq => by have := hlt q hq; omega
  have hs : Upd [gl] w1 (w1.setCell ⟨gl, k * 6, none⟩ (.pointer (some ⟨R, 0, none⟩))) := (Upd.refl _ _).setCell (Or.inl (by simp)) _
  have hglB := old gl h.tl.2.2
  obtain ⟨xs, e1, e2⟩ := h1.ends
  have hxl := e2.1
  have eset := e1.set (k * 6) (.pointer (some ⟨R, 0, none⟩)) (by omega)
  rw [Nat.zero_add] at eset
  have hbgl : c ≠ gl := fun e => by have h1 := h.tb.2.1; have h2 := h.tl.2.1; rw [e] at h1; omega
  have tg : ∀ q, q ∈ foot → (if q = R then 5 + 2 * k else if q = G then 6 + 2 * k else tag q) = tag q := fun q hq => by
    rw [if_neg (old q hq).1, if_neg (old q hq).2]
  refine { blk := h1.blk.upd hs (by simp; exact hbgl), ends := ⟨_, eset, ⟨by rw [List.length_set]; exact hxl, fun i x hi j v hv => ?_⟩⟩, rings := fun i x hi hx => ?_, tb := ⟨h.tb.1, by rw [tg _ h.tb.2.2]; exact h.tb.2.1, by simp [h.tb.2.2]⟩, tl := ⟨h.tl.1, by rw [tg _ h.tl.2.2]; exact h.tl.2.1, by simp [h.tl.2.2]⟩, tr := fun i hi => ?_, lt := fun q hq => ?_, ge := fun q hq => ?_ }
  · have hj : j < 6 := (List.getElem?_eq_some_iff.1 hv).1
    by_cases hik : i = k
    · subst hik
      have hold := e2.2 i x hi
      rcases j with _ | _ | _ | _ | _ | _ | j
      · simp [endC] at hv
        subst hv
        rw [Nat.add_zero, List.getElem?_set_self (by omega)]
      all_goals
        rw [List.getElem?_set_ne (by omega)]
        refine hold _ v ?_
        rw [← hv]; simp [endC]
    · rw [List.getElem?_set_ne (by omega)]
      refine e2.2 i x hi j v ?_
      rw [← hv]
      by_cases hlt : i < k
      · simp only [if_pos hlt, if_pos (show i < k + 1 by omega), if_neg hik]
      · simp only [if_neg hlt, if_neg (show ¬ i < k + 1 by omega)]
  · by_cases hik : i = k
    · subst hik
      rw [he] at hx
      cases hx
      rw [if_pos rfl, if_pos rfl]
      exact hR.upd hs (by simp; omega) (by simp; omega)
    · rw [if_neg hik, if_neg hik]
      obtain ⟨t1, t2⟩ := h.tr i (by omega)
      exact (h1.rings i x (by omega) hx).upd hs (by simp; intro e; have h1 := h.tl.2.1; rw [← e, t1.2.1] at h1; omega) (by simp; intro e; have h1 := h.tl.2.1; rw [← e, t2.2.1] at h1; omega)
  · by_cases hik : i = k
    · subst hik
      simp only [if_pos]
      refine ⟨⟨by omega, by simp, by simp⟩, ⟨by omega, ?_, by simp⟩⟩
      rw [if_neg (fun e => hBG e.symm)]
    · simp only [if_neg hik]
      obtain ⟨t1, t2⟩ := h.tr i (by omega)
      exact ⟨⟨t1.1, by rw [← t1.2.1]; exact tg _ t1.2.2, by simp [t1.2.2]⟩, ⟨t2.1, by rw [← t2.2.1]; exact tg _ t2.2.2, by simp [t2.2.2]⟩⟩
  · have hsz := hs.size
    have husz := hu.size
    simp at hq
    rcases hq with rfl | rfl | hq
    · omega
    · omega
    · have := hlt q hq; omega
  · simp at hq
    rcases hq with rfl | rfl | hq
    · omega
    · omega
    · exact h.ge q hq
end

section
variable {w w1 : World} {base b : Nat} {l : PLay} {p : PortM}

def PClonePost (w : World) (base : Nat) (l : PLay) (p : PortM) (e : Ending) (w' : World) : Prop :=
  ∃ c l2, e = .returned (.pointer (some ⟨c, 0, none⟩)) ∧ PortAt w' base c l2 p ∧ (∀ q, q ∈ l2.foot → q ∉ l.forget.foot) ∧ Within w l2.foot l.foot ∧ Upd [] w w'

theorem PClo.done {wr : World} {c gl cp : Nat} {vb vo : Value} {rb g tag : Nat → Nat} {foot : List Nat} {ys : List Value} (h : PortAt w base b l p) (hc : PClo wr w.heap.size c gl cp p.ends.length p.ends.length p.clients p.size vb vo p.ends l.rb rb g tag foot) (hU : Upd [] w wr)
    (hvb : Own wr w.heap.size 35 1 vb p.box.length ys) (hvo : Own wr w.heap.size 51 10 vo p.outs.length (outsC p.outs))
    (hys : ∀ (i : Nat) (bs : List UInt8), p.box[i]? = some bs → bs.length ≤ 512 → ∃ v : Value, ys[i]? = some v ∧ Rd w v bs ∧ ∀ q, v.ownBlock = some q → l.has base 4 q)
    (hbn : ∀ q, vb.ownBlock = some q → q ∉ foot) (hon : ∀ q, vo.ownBlock = some q → q ∉ foot ∧ vb.ownBlock ≠ some q) :
    PClonePost w base l p (.returned (.pointer (some ⟨c, 0, none⟩))) wr := by
  have hbs : base ≤ w.heap.size := by have := h.tb.1; have := h.blk.lt; omega
  obtain ⟨l2, hl2⟩ : ∃ l2 : PLay, l2 = ⟨rb, g, .slice (some ⟨gl, 0, none⟩) p.ends.length cp, vb, vo, fun q => if q < w.heap.size then 4 else if vb.ownBlock = some q then 2 else if vo.ownBlock = some q then 3 else tag q, vb.ownBlock.toList ++ (vo.ownBlock.toList ++ (foot ++ l.foot.filter (fun q => l.tag q == 4)))⟩ := ⟨_, rfl⟩
  have hft : ∀ q, q ∈ l2.foot → (vb.ownBlock = some q ∨ vo.ownBlock = some q ∨ q ∈ foot) ∨ (q ∈ l.foot ∧ l.tag q = 4) := fun q hq => by
    subst hl2
    rcases List.mem_append.1 hq with h' | h'
    · exact Or.inl (Or.inl (mem_ownP h'))
    · rcases List.mem_append.1 h' with h' | h'
      · exact Or.inl (Or.inr (Or.inl (mem_ownP h')))
      · rcases List.mem_append.1 h' with h' | h'
        · exact Or.inl (Or.inr (Or.inr h'))
        · have := List.mem_filter.1 h'
          exact Or.inr ⟨this.1, by simpa using this.2⟩
  have hnew : ∀ q, (vb.ownBlock = some q ∨ vo.ownBlock = some q ∨ q ∈ foot) → w.heap.size ≤ q ∧ q < wr.heap.size := fun q hq => by
    rcases hq with h' | h' | h'
    · exact hvb.lt q h'
    · exact hvo.lt q h'
    · exact ⟨hc.ge q h', hc.lt q h'⟩
  have hh : ∀ m q, (w.heap.size ≤ q ∧ tag q = m ∧ q ∈ foot) → l2.has base m q := fun m q ⟨h1, h2, h3⟩ => by
    subst hl2
    refine ⟨by omega, ?_, ?_⟩
    · show (if _ then _ else if _ then _ else if _ then _ else _) = _
      rw [if_neg (by omega), if_neg (fun e => hbn q e h3), if_neg (fun e => (hon q e).1 h3)]
      exact h2
    · show q ∈ _ ++ (_ ++ (_ ++ _))
      simp [h3]
  obtain ⟨xs, e1, e2⟩ := hc.ends
  refine ⟨c, l2, rfl, { blk := ?_, ends := ⟨xs, ?_, ?_⟩, rings := fun i e hi => ?_, box := ⟨ys, ?_, fun i bs hi hsz => ?_⟩, outs := ?_, tb := hh _ _ hc.tb, tl := fun q hq => ?_, tx := fun q hq => ?_, to := fun q hq => ?_, tr := fun i hi => ?_, small := h.small, cl := h.cl, fine := h.fine, bx := h.bx, lt := fun q hq => ?_, ge := fun q hq => ?_ }, fun q hq hq' => ?_, fun q hq => ?_, hU⟩
  · subst hl2; exact hc.blk
  · subst hl2; exact e1.mono hbs
  · subst hl2
    refine ⟨e2.1, fun i e hi j v hv => e2.2 i e hi j v ?_⟩
    simp only [if_pos (List.getElem?_eq_some_iff.1 hi).1]
    exact hv
  · have := hc.rings i e (List.getElem?_eq_some_iff.1 hi).1 hi
    subst hl2
    exact this
  · subst hl2; exact Or.inl (hvb.mono hbs)
  · obtain ⟨v, k1, k2, k3⟩ := hys i bs hi hsz
    refine ⟨v, k1, k2.upd hU (by simp), fun q hq => ?_⟩
    have h4 := k3 q hq
    subst hl2
    refine ⟨h4.1, ?_, ?_⟩
    · show (if _ then _ else if _ then _ else if _ then _ else _) = _
      rw [if_pos (h.lt q h4.2.2)]
    · show q ∈ _ ++ (_ ++ (_ ++ _))
      simp [h4.2.2, h4.2.1]
  · subst hl2; exact hvo.mono hbs
  · subst hl2; cases hq; exact hh _ _ hc.tl
  · have hq' : vb.ownBlock = some q := by subst hl2; exact hq
    have h' := hvb.lt q hq'
    subst hl2
    refine ⟨by omega, ?_, ?_⟩
    · show (if _ then _ else if _ then _ else if _ then _ else _) = _
      rw [if_neg (by omega), if_pos hq']
    · show q ∈ _ ++ (_ ++ (_ ++ _))
      simp [hq']
  · have hq' : vo.ownBlock = some q := by subst hl2; exact hq
    have h' := hvo.lt q hq'
    have hb' := (hon q hq').2
    subst hl2
    refine ⟨by omega, ?_, ?_⟩
    · show (if _ then _ else if _ then _ else if _ then _ else _) = _
      rw [if_neg (by omega), if_neg hb', if_pos hq']
    · show q ∈ _ ++ (_ ++ (_ ++ _))
      simp [hq']
  · have h1 := hh _ _ (hc.tr i hi).1
    have h2 := hh _ _ (hc.tr i hi).2
    subst hl2
    exact ⟨h1, h2⟩
  · have := hU.size
    rcases hft q hq with h' | h'
    · exact (hnew q h').2
    · have := h.lt q h'.1; omega
  · rcases hft q hq with h' | h'
    · have := (hnew q h').1; omega
    · exact h.ge q h'.1
  · have hm := List.mem_filter.1 hq'
    rcases hft q hq with h' | h'
    · have := (hnew q h').1; have := h.lt q hm.1; omega
    · have := hm.2; rw [h'.2] at this; simp at this
  · rcases hft q hq with h' | h'
    · exact Or.inr (hnew q h').1
    · exact Or.inl h'.1
end

end Go.Proofs.Ytnbhgfnjnccakaa
