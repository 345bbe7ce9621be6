/- The walks of the port's Gram and the document's, whatever the box. -/
import Derived.Test.YtnbhgfnjnccakaaPP1
namespace Go.Proofs.Ytnbhgfnjnccakaa
open Go Go.RowKit
set_option linter.unusedVariables false

theorem Rd.src {P : Program} {w : World} {v : Value} {bs : List UInt8} {tx e' : TypeId} (h : Rd w v bs) (hk : P.underlying tx = some (.slice e')) : Src P 1 tx v bs.length (bs.map byteV) w := by
  obtain ⟨av, cv, rfl, h1, h2, h3, h4⟩ := h
  cases av with
  | none =>
    have hz : bs = [] := List.eq_nil_of_length_eq_zero (by have := h3 rfl; omega)
    subst hz
    exact Src.ofNil _ hk cv
  | some ad =>
    obtain ⟨hsp, hc⟩ := h4 ad rfl
    refine Src.ofSlice _ hk ad _ _ _ (by simp) (fun j u hj => ?_) (bytesV_one _)
    have hne : bs ≠ [] := fun e => by subst e; simp at hj
    obtain ⟨g, o, sp⟩ := ad
    have hsp := hsp hne
    simp only at hsp
    subst hsp
    rw [addr_add]
    exact hc j u hj

/-- A box without its first. -/
theorem Own.tailE {w : World} {base e g off n cap : Nat} {x : Value} {xs : List Value} (h : Own w base e 1 (.slice (some ⟨g, off, none⟩) (n + 1) cap) (n + 1) (x :: xs)) :
    (1 < cap → OwnE w base e 1 (.slice (some ⟨g, off + 1, none⟩) n (cap - 1)) n xs) ∧ (cap = 1 → n = 0 ∧ xs = [] ∧ OwnE w base e 1 (.slice (some ⟨g, off, none⟩) 0 0) 0 []) := by
  have hl := h.1
  obtain ⟨g', off', cap', pre, rst, hv, hb, hgB, hpre, hrst, hnc, hcm⟩ := h.blk (by intro e; cases e)
  cases hv
  refine ⟨fun _ => Or.inl h.tail, fun hc => ?_⟩
  have hn : n = 0 := by omega
  subst hn
  simp at hl
  exact ⟨rfl, hl, Or.inr ⟨rfl, rfl, g, off, rfl, hb, hgB.lt⟩⟩

def PortM.gramed (p : PortM) : PortM := { p with box := p.box.tail }

section
variable {w w1 : World} {base b : Nat} {l : PLay} {p : PortM}

def PGramPost (w : World) (base b : Nat) (l : PLay) (p' : PortM) (bs : List UInt8) (e : Ending) (w' : World) : Prop :=
  ∃ v, e = .returned (.tuple #[v, .int .i64 0]) ∧ GivenB w w' v bs ∧ PPost w base b l p' w'

set_option maxHeartbeats 2000000 in
set_option maxRecDepth 100000 in
theorem pt_gram_some {bs : List UInt8} {rest : List (List UInt8)} (h : PortAt w base b l p) (hb : p.box = bs :: rest) (hbl : bs.length ≤ 512) :
    Calls Try.prog 29 #[.pointer (some ⟨b, 0, none⟩)] w (PGramPost w base b l { p with box := rest } bs) := by
  have his := pt_is h
  obtain ⟨ys, hbo, hel⟩ := h.box
  have hbx := h.bx
  rw [hb] at hbo hbx
  have hyl := hbo.len
  obtain ⟨y0, ys', rfl⟩ : ∃ y ys', ys = y :: ys' := by
    cases ys with
    | nil => simp at hyl
    | cons a r => exact ⟨a, r, rfl⟩
  obtain ⟨v0, hv0, hr0, hv4⟩ := hel 0 bs (by rw [hb]; rfl) hbl
  simp at hv0
  subst hv0
  have hbo : Own w base 35 1 l.vb (rest.length + 1) (y0 :: ys') := by
    rcases hbo with hbo | ⟨h0, _⟩
    · exact hbo
    · simp at h0
  obtain ⟨g, off, cap, pre, rst, hv, hgb, hgB, hpre, hrst, hnc, hcm⟩ := hbo.blk (by intro e; have := hbo.shape; obtain ⟨a, c, hh⟩ := this; rw [hh] at e; injection e with _ e2; simp at e2)
  rw [hv] at hbo
  have b2 := h.blk.cell (i := 2) rfl
  rw [hv] at b2
  have f2 := h.blk.frozen 2
  have cg := hbo.cell rfl (j := 0) (u := y0) rfl
  rw [Nat.add_zero] at cg
  obtain ⟨hT1, hT2⟩ := hbo.tailE
  have htx := h.tx g (by rw [hv]; rfl)
  obtain ⟨a0, c0, rfl⟩ : ∃ a0 c0, y0 = .slice a0 bs.length c0 := by obtain ⟨av, cv, hh, _⟩ := hr0; exact ⟨av, cv, hh⟩
  have eadd : (⟨g, off, none⟩ : Addr).add 1 = ⟨g, off + 1, none⟩ := addr_add _ _ _
  have hgb2 : g ≠ b := htx.ne h.tb (by decide)
  have hsz : ∀ x, (w.setCell ⟨b, 2, none⟩ x).heap.size = w.heap.size := fun x => World.size_setCell ..
  have hreb : ∀ vx, (∀ q, vx.ownBlock = some q → l.vb.ownBlock = some q) → OwnE w base 35 1 vx rest.length ys' → PPost w base b l { p with box := rest } (w.setCell ⟨b, 2, none⟩ vx) := fun vx hbk hox => by
    have hR := h.rebox (v' := vx) (ys' := ys') (box' := rest) (news := []) (wa := w) (w1 := w) (w2 := w.setCell ⟨b, 2, none⟩ vx) (Upd.refl _ _) (Upd.refl _ _) hox (fun q hq => Or.inl (hbk q hq))
      (fun i bs' hi hsz => by
        obtain ⟨v, e1, e2, e3⟩ := hel (i + 1) bs' (by rw [hb]; simpa using hi) hsz
        exact ⟨v, by simpa using e1, e2, fun q hq => Or.inl (e3 q hq)⟩)
      (fun q hq => by cases hq) (by simp at hbx; omega) rfl
    exact ⟨_, hR.1, hR.2.1, hR.2.2⟩
  have hrs : ∀ vx, Rd (w.setCell ⟨b, 2, none⟩ vx) (.slice a0 bs.length c0) bs := fun vx => hr0.upd ((Upd.refl [b] w).setCell (a := ⟨b, 2, none⟩) (Or.inl (by simp)) _) (fun q hq hq' => by
    simp at hq'
    exact (hv4 q hq).ne h.tb (by decide) hq')
  by_cases hc : cap = 1
  · subst hc
    obtain ⟨hr0', hxs0, hO⟩ := hT2 rfl
    have hpost := hreb (.slice (some ⟨g, off, none⟩) 0 0) (fun q hq => by rw [hv]; exact hq) (by rw [hr0', hxs0]; exact hO)
    have hrd1 := hrs (.slice (some ⟨g, off, none⟩) 0 0)
    rw [hr0'] at b2
    have hs0 := hsz (.slice (some ⟨g, off, none⟩) 0 0)
    have Hr := Lib.hid hr0'
    clear hreb hrs hel hT1 hT2 hr0 hbo hgB hO hr0' hxs0 hsz
    go_enter Try.func29, Try.ntmps29
    go_wp2_with (first | (go_at_call 55; refine his.mono ?_; rintro e w' ⟨rfl, rfl⟩) | (with_reducible refine wpList_append_gen rfl (.tmp 30) (.tmp 31) 35 35 rfl 5 (.int .u8 0) 1 1 Try.underlying35 Try.info5 rfl w.heap.size ?a1 (.slice (some ⟨w.heap.size, 0, none⟩) 0 0) 0 [] rfl ?a2 _ bs.length (bs.map byteV) rfl ?a3 ?a4 ?a5 ?a6))
    case a1 => rw [World.size_alloc, hs0]; omega
    case a2 => exact ⟨rfl, Or.inr ⟨w.heap.size, 0, 0, [], [], rfl, Nat.le_refl _, by have := blk_new (w.setCell ⟨b, 2, none⟩ (.slice (some ⟨g, off, none⟩) 0 0)) 5 []; rw [hs0] at this; simpa using this, rfl, by simp, Nat.le_refl _, by decide⟩⟩
    case a3 => exact (hrd1.upd ((Upd.refl [] _).alloc _) (by simp)).src Try.underlying35
    case a4 => unfold maxLen; omega
    case a5 => omega
    case a6 =>
      intro v' w2 hown2 hU2 hblk2 hnil2 hoff2
      have hU3 : Upd [] (w.setCell ⟨b, 2, none⟩ (.slice (some ⟨g, off, none⟩) 0 0)) w2 := ((Upd.refl [] _).alloc _).trans (fun q hq => Or.inr (by simp [Value.ownBlock] at hq; rw [hs0]; omega)) hU2
      try simp only [Nat.zero_add] at hown2
      obtain ⟨ao2, co2, rfl⟩ := hown2.shape
      have hfin := hpost.up hU3
      clear hU2 hblk2 hnil2 hoff2 hrd1
      go_wp2_with fail
      go_ret2
      exact ⟨_, rfl, hown2, hfin⟩
  · have hc1 : 1 < cap := by omega
    have hpost := hreb (.slice (some ⟨g, off + 1, none⟩) rest.length (cap - 1)) (fun q hq => by rw [hv]; exact hq) (hT1 hc1)
    have hrd1 := hrs (.slice (some ⟨g, off + 1, none⟩) rest.length (cap - 1))
    have hs0 := hsz (.slice (some ⟨g, off + 1, none⟩) rest.length (cap - 1))
    clear hreb hrs hel hT1 hT2 hr0 hbo hgB hsz
    go_enter Try.func29, Try.ntmps29
    go_wp2_with (first | (go_at_call 55; refine his.mono ?_; rintro e w' ⟨rfl, rfl⟩) | (with_reducible refine wpList_append_gen rfl (.tmp 30) (.tmp 31) 35 35 rfl 5 (.int .u8 0) 1 1 Try.underlying35 Try.info5 rfl w.heap.size ?b1 (.slice (some ⟨w.heap.size, 0, none⟩) 0 0) 0 [] rfl ?b2 _ bs.length (bs.map byteV) rfl ?b3 ?b4 ?b5 ?b6))
    case b1 => rw [World.size_alloc, hs0]; omega
    case b2 => exact ⟨rfl, Or.inr ⟨w.heap.size, 0, 0, [], [], rfl, Nat.le_refl _, by have := blk_new (w.setCell ⟨b, 2, none⟩ (.slice (some ⟨g, off + 1, none⟩) rest.length (cap - 1))) 5 []; rw [hs0] at this; simpa using this, rfl, by simp, Nat.le_refl _, by decide⟩⟩
    case b3 => exact (hrd1.upd ((Upd.refl [] _).alloc _) (by simp)).src Try.underlying35
    case b4 => unfold maxLen; omega
    case b5 => omega
    case b6 =>
      intro v' w2 hown2 hU2 hblk2 hnil2 hoff2
      have hU3 : Upd [] (w.setCell ⟨b, 2, none⟩ (.slice (some ⟨g, off + 1, none⟩) rest.length (cap - 1))) w2 := ((Upd.refl [] _).alloc _).trans (fun q hq => Or.inr (by simp [Value.ownBlock] at hq; rw [hs0]; omega)) hU2
      try simp only [Nat.zero_add] at hown2
      obtain ⟨ao2, co2, rfl⟩ := hown2.shape
      have hfin := hpost.up hU3
      clear hU2 hblk2 hnil2 hoff2 hrd1
      go_wp2_with fail
      go_ret2
      exact ⟨_, rfl, hown2, hfin⟩
end

section
variable {w w1 : World} {base c : Nat} {L : XLay} {p : PortM}

theorem rp_gram_none (h : RPortAt w base c L p) (hb : p.box = []) : Calls Try.prog 72 #[.pointer (some ⟨c, 0, none⟩)] w fun e w' => e = .returned (.tuple #[.slice none 0 0, .int .i64 5]) ∧ w = w' := by
  obtain ⟨ys, hbo, _⟩ := h.box
  obtain ⟨bo, bc, hvx⟩ := hbo.shape
  have b3 := h.blk.cell (i := 3) rfl
  rw [hvx, hb] at b3
  go_enter Try.func72, Try.ntmps72
  go_wp2_with fail
  go_ret2
  exact ⟨rfl, rfl⟩

def RGramPost (w : World) (base c : Nat) (L : XLay) (p' : PortM) (bs : List UInt8) (e : Ending) (w' : World) : Prop :=
  ∃ v, e = .returned (.tuple #[v, .int .i64 0]) ∧ Rd w' v bs ∧ RPost w base c L p' w'

set_option maxHeartbeats 2000000 in
set_option maxRecDepth 100000 in
theorem rp_gram_some {bs : List UInt8} {rest : List (List UInt8)} (h : RPortAt w base c L p) (hb : p.box = bs :: rest) :
    Calls Try.prog 72 #[.pointer (some ⟨c, 0, none⟩)] w (RGramPost w base c L { p with box := rest } bs) := by
  obtain ⟨ys, hbo, hel⟩ := h.box
  have hbx := h.bx
  rw [hb] at hbo hbx
  have hyl := hbo.len
  obtain ⟨y0, ys', rfl⟩ : ∃ y ys', ys = y :: ys' := by
    cases ys with
    | nil => simp at hyl
    | cons a r => exact ⟨a, r, rfl⟩
  obtain ⟨v0, hv0, hr0, hv4⟩ := hel 0 bs (by rw [hb]; rfl)
  simp at hv0
  subst hv0
  have hbo : Own w base 35 1 L.vx (rest.length + 1) (y0 :: ys') := by
    rcases hbo with hbo | ⟨h0, _⟩
    · exact hbo
    · simp at h0
  obtain ⟨g, off, cap, pre, rst, hv, hgb, hgB, hpre, hrst, hnc, hcm⟩ := hbo.blk (by intro e; have := hbo.shape; obtain ⟨a, c, hh⟩ := this; rw [hh] at e; injection e with _ e2; simp at e2)
  rw [hv] at hbo
  have b3 := h.blk.cell (i := 3) rfl
  rw [hv] at b3
  have f3 := h.blk.frozen 3
  have cg := hbo.cell rfl (j := 0) (u := y0) rfl
  rw [Nat.add_zero] at cg
  obtain ⟨hT1, hT2⟩ := hbo.tailE
  have htx := h.tx g (by rw [hv]; rfl)
  obtain ⟨a0, c0, rfl⟩ : ∃ a0 c0, y0 = .slice a0 bs.length c0 := by obtain ⟨av, cv, hh, _⟩ := hr0; exact ⟨av, cv, hh⟩
  have eadd : (⟨g, off, none⟩ : Addr).add 1 = ⟨g, off + 1, none⟩ := addr_add _ _ _
  have hgc2 : g ≠ c := htx.ne h.tb (by decide)
  have hreb : ∀ vx, (∀ q, vx.ownBlock = some q → L.vx.ownBlock = some q) → OwnE w base 35 1 vx rest.length ys' → RPost w base c L { p with box := rest } (w.setCell ⟨c, 3, none⟩ vx) := fun vx hbk hox => by
    have hR := h.rebox (v' := vx) (ys' := ys') (box' := rest) (news := []) (wa := w) (w1 := w) (w2 := w.setCell ⟨c, 3, none⟩ vx) (Upd.refl _ _) (Upd.refl _ _) hox (fun q hq => Or.inl (hbk q hq))
      (fun i bs' hi => by
        obtain ⟨v, e1, e2, e3⟩ := hel (i + 1) bs' (by rw [hb]; simpa using hi)
        exact ⟨v, by simpa using e1, e2, fun q hq => Or.inl (e3 q hq)⟩)
      (fun q hq => by cases hq) (by simp at hbx; omega) rfl
    exact ⟨_, hR.1, hR.2.1, hR.2.2⟩
  have hrs : ∀ vx, Rd (w.setCell ⟨c, 3, none⟩ vx) (.slice a0 bs.length c0) bs := fun vx => hr0.upd ((Upd.refl [c] w).setCell (a := ⟨c, 3, none⟩) (Or.inl (by simp)) _) (fun q hq hq' => by
    simp at hq'
    exact (hv4 q hq).ne h.tb (by decide) hq')
  by_cases hc : cap = 1
  · subst hc
    obtain ⟨hr0', hxs0, hO⟩ := hT2 rfl
    have hpost := hreb (.slice (some ⟨g, off, none⟩) 0 0) (fun q hq => by rw [hv]; exact hq) (by rw [hr0', hxs0]; exact hO)
    have hrd1 := hrs (.slice (some ⟨g, off, none⟩) 0 0)
    rw [hr0'] at b3
    clear hreb hrs hel hT1 hT2 hr0 hbo hgB hO hr0' hxs0
    go_enter Try.func72, Try.ntmps72
    go_wp2_with fail
    go_ret2
    exact ⟨_, rfl, hrd1, hpost⟩
  · have hc1 : 1 < cap := by omega
    have hpost := hreb (.slice (some ⟨g, off + 1, none⟩) rest.length (cap - 1)) (fun q hq => by rw [hv]; exact hq) (hT1 hc1)
    have hrd1 := hrs (.slice (some ⟨g, off + 1, none⟩) rest.length (cap - 1))
    clear hreb hrs hel hT1 hT2 hr0 hbo hgB
    go_enter Try.func72, Try.ntmps72
    go_wp2_with fail
    go_ret2
    exact ⟨_, rfl, hrd1, hpost⟩
end

end Go.Proofs.Ytnbhgfnjnccakaa
