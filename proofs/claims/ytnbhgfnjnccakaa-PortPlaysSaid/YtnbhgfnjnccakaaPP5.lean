/- For the law's play: what a call keeps, at both; Dial, whatever the place. -/
import Derived.Test.YtnbhgfnjnccakaaPP2
import Derived.Test.YtnbhgfnjnccakaaPP4
import Derived.Test.YtnbhgfnjnccakaaRelay2
import Derived.Test.YtnbhgfnjnccakaaPBase
import Derived.Test.YtnbhgfnjnccakaaRP7
namespace Go.Proofs.Ytnbhgfnjnccakaa
open Go Go.RowKit
set_option linter.unusedVariables false

theorem ba_loop_len (bs : ByteArray) : ∀ n i r, bs.size - i ≤ n → r.length ≤ (ByteArray.toList.loop bs i r).length
  | 0, i, r, h => by
    unfold ByteArray.toList.loop
    rw [if_neg (by omega)]
    simp
  | n + 1, i, r, h => by
    unfold ByteArray.toList.loop
    split
    · refine Nat.le_trans ?_ (ba_loop_len bs n (i + 1) _ (by omega))
      simp
    · simp
theorem ba_empty {bs : ByteArray} (h : bs.toList = []) : bs = .empty := by
  have hs : bs.size = 0 := by
    rcases Nat.eq_zero_or_pos bs.size with h0 | h0
    · exact h0
    · exfalso
      unfold ByteArray.toList at h
      unfold ByteArray.toList.loop at h
      rw [if_pos h0] at h
      have := ba_loop_len bs _ 1 [bs.get! 0] (Nat.le_refl _)
      rw [show (0 + 1 = 1) from rfl] at h
      rw [h] at this
      simp at this
  apply ByteArray.ext
  exact Array.eq_empty_of_size_eq_zero hs

/-- What every call of the law's play keeps of a port. -/
def Kept (p p' : PortM) : Prop := p'.ends.length = p.ends.length ∧ (∀ x, x ∈ p'.box → x ∈ p.box ∨ x.length ≤ 512) ∧ p'.outs.length ≤ p.outs.length + 1

section
variable {p p' : PortM}
theorem taken_box (k n : Int) : (p.taken k n).box = p.box := by unfold PortM.taken; split <;> rfl
theorem sent_box (k : Int) (bs : List UInt8) : (p.sent k bs).box = p.box := by
  unfold PortM.sent; split
  · split <;> rfl
  · rfl
theorem fined_box (k : Int) : (p.fined k).box = p.box := by
  unfold PortM.fined; split
  · rfl
  · split <;> rfl
theorem closed_box (k : Int) : (p.closed k).box = p.box := by
  unfold PortM.closed; split
  · rfl
  · split
    · rfl
    · split <;> rfl
theorem kept_same (h1 : p'.ends.length = p.ends.length) (h2 : p'.box = p.box) (h3 : p'.outs.length ≤ p.outs.length + 1) : Kept p p' := ⟨h1, fun x hx => Or.inl (by rw [← h2]; exact hx), h3⟩
theorem kept_refl : Kept p p := kept_same rfl rfl (Nat.le_succ _)
theorem kept_accepted : Kept p p.accepted := by
  refine kept_same ?_ ?_ ?_
  · unfold PortM.accepted; split
    · exact PortM.setEnd_len
    · rfl
  · unfold PortM.accepted; split <;> rfl
  · unfold PortM.accepted; split <;> exact Nat.le_succ _
theorem kept_taken (k n : Int) : Kept p (p.taken k n) := kept_same (taken_len k n) (taken_box k n) (by rw [taken_outs]; omega)
theorem kept_sent (k : Int) (bs : List UInt8) : Kept p (p.sent k bs) := kept_same (sent_len k bs) (sent_box k bs) (sent_outs k bs)
theorem kept_fined (k : Int) : Kept p (p.fined k) := kept_same (fined_len k) (fined_box k) (fined_outs k)
theorem kept_closed (k : Int) : Kept p (p.closed k) := kept_same (closed_len k) (closed_box k) (closed_outs k)
theorem kept_dialled (d : DestM) : Kept p (p.dialled d) := kept_same PortM.setEnd_len rfl (by show (p.outs ++ [_]).length ≤ _; simp)
theorem kept_posted (bs : List UInt8) : Kept p (p.posted bs) := by
  unfold PortM.posted
  split
  · exact kept_same rfl rfl (by show (p.outs ++ [_]).length ≤ _; simp)
  · exact kept_refl
theorem kept_gram {bs : List UInt8} {rest : List (List UInt8)} (h : p.box = bs :: rest) : Kept p { p with box := rest } := ⟨rfl, fun x hx => Or.inl (by rw [h]; exact List.mem_cons_of_mem _ hx), Nat.le_succ _⟩
theorem kept_outs : Kept p { p with outs := [] } := ⟨rfl, fun x hx => Or.inl hx, Nat.zero_le _⟩
end

/-- What Dial answers, and what it leaves, at both. -/
structure DialAns (p p' : PortM) (d : DestM) (a e : Nat) : Prop where
  P : ∀ (w : World) (base b : Nat) (l : PLay), PortAt w base b l p → Calls Try.prog 52 #[.pointer (some ⟨b, 0, none⟩), destV d] w fun r w' => r = .returned (.tuple #[.int .i64 a, .int .i64 e]) ∧ PPost w base b l p' w'
  R : ∀ (w : World) (base c : Nat) (L : XLay), RPortAt w base c L p → Calls Try.prog 71 #[.pointer (some ⟨c, 0, none⟩), destV d] w fun r w' => r = .returned (.tuple #[.int .i64 a, .int .i64 e]) ∧ RPost w base c L p' w'
  kept : Kept p p'

theorem dial_any (p : PortM) (d : DestM) (hcl : p.clients ≤ p.ends.length) (hlen : p.outs.length < 1900000000000) : ∃ a e p', DialAns p p' d a e := by
  by_cases hb : d.port < 1 ∨ 65535 < d.port ∨ ¬ d.name.toList = []
  · exact ⟨0, 2, p, ⟨fun w base b l h => pt_dial_bad d h hb, fun w base c L h => rp_dial_bad d h hb, kept_refl⟩⟩
  · have h1 : 1 ≤ d.port := by omega
    have h2 : d.port ≤ 65535 := by omega
    have h3 : d.name = .empty := ba_empty (by
      by_cases h : d.name.toList = []
      · exact h
      · exact absurd (Or.inr (Or.inr h)) hb)
    by_cases hf : p.dialIx < p.ends.length
    · exact ⟨p.dialIx, 0, p.dialled d, ⟨fun w base b l h => pt_dial_ok d h h1 h2 h3 hlen hf, fun w base c L h => rp_dial_ok d h h1 h2 h3 hlen hcl hf, kept_dialled d⟩⟩
    · exact ⟨0, 4, p, ⟨fun w base b l h => pt_dial_full d h h1 h2 h3 hf, fun w base c L h => rp_dial_full d h h1 h2 h3 hcl hf, kept_refl⟩⟩

/-- From w to w1 only the two ports' own blocks, and new ones, changed. -/
structure Went (w : World) (l : PLay) (L : XLay) (w1 : World) (l1 : PLay) (L1 : XLay) : Prop where
  u : Upd (l.foot ++ L.foot) w w1
  a : Within w l1.foot l.foot
  b : Within w L1.foot L.foot

section
variable {w0 w w1 w2 : World} {b c : Nat} {l l1 l2 : PLay} {L L1 L2 : XLay} {p p' y : PortM} {F : List Nat}
theorem Went.refl : Went w l L w l L := ⟨Upd.refl _ _, Within.refl _ _, Within.refl _ _⟩
theorem Went.side (h : Went w l L w1 l1 L1) (hu : Upd F w1 w2) (hF : ∀ q, q ∈ F → w.heap.size ≤ q) : Went w l L w2 l1 L1 := ⟨h.u.trans (fun q hq => Or.inr (hF q hq)) hu, h.a, h.b⟩
theorem Went.up (h : Went w l L w1 l1 L1) (hu : Upd [] w1 w2) : Went w l L w2 l1 L1 := h.side hu (by simp)
theorem Went.port (h : Went w l L w1 l1 L1) (hu : Upd l1.foot w1 w2) (hW : Within w1 l2.foot l1.foot) : Went w l L w2 l2 L1 := by
  refine ⟨h.u.trans (fun q hq => ?_) hu, fun q hq => ?_, h.b⟩
  · rcases h.a q hq with h' | h'
    · exact Or.inl (List.mem_append_left _ h')
    · exact Or.inr h'
  · rcases hW q hq with h' | h'
    · exact h.a q h'
    · exact Or.inr (Nat.le_trans h.u.size h')
theorem Went.ref (h : Went w l L w1 l1 L1) (hu : Upd L1.foot w1 w2) (hW : Within w1 L2.foot L1.foot) : Went w l L w2 l1 L2 := by
  refine ⟨h.u.trans (fun q hq => ?_) hu, h.a, fun q hq => ?_⟩
  · rcases h.b q hq with h' | h'
    · exact Or.inl (List.mem_append_right _ h')
    · exact Or.inr h'
  · rcases hW q hq with h' | h'
    · exact h.b q h'
    · exact Or.inr (Nat.le_trans h.u.size h')

/-- A block of neither port is written. -/
theorem Two.side (h : Two w0 w b l p c L y) (hu : Upd F w w1) (hF : ∀ q, q ∈ F → q ∉ l.foot ∧ q ∉ L.foot ∧ w0.heap.size ≤ q) : Two w0 w1 b l p c L y :=
  ⟨h.P.upd hu (fun q hq => (hF q hq).1), h.Y.upd hu (fun q hq => (hF q hq).2.1), h.d, h.U.trans (fun q hq => Or.inr (hF q hq).2.2) hu⟩
end

/-- What the law's play leaves. -/
def PlayPost (w0 w : World) (b c : Nat) (l : PLay) (L : XLay) (p : PortM) (e : Ending) (w' : World) : Prop :=
  e = .returned (.bool true) ∧ ∃ l' L' p', Two w0 w' b l' p' c L' p' ∧ Kept p p' ∧ Went w l L w' l' L'

end Go.Proofs.Ytnbhgfnjnccakaa
