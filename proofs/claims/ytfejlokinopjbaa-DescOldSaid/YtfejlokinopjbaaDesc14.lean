/- The plain law of DescOld: a handle that was closed stays closed. -/
import Derived.Test.YtfejlokinopjbaaDesc12
namespace Go.Proofs.Ytfejlokinopjbaa
open Go Go.RowKit
set_option linter.unusedVariables false

/-- The handle p is over: its entry has a later generation. -/
def Over (t : TabM) (p : Nat × Nat) : Prop := ∃ x, t[p.1]? = some x ∧ 1 ≤ p.2 ∧ p.2 < x.gen

theorem Over.look {t : TabM} {p : Nat × Nat} (h : Over t p) : t.look p.1 p.2 = 30 := by
  obtain ⟨x, hx, h1, h2⟩ := h
  unfold TabM.look
  rw [if_neg (by omega), Int.toNat_natCast, hx]
  show (if 1 ≤ (p.2 : Int) ∧ (p.2 : Int) < (x.gen : Int) then 30 else _) = 30
  rw [if_pos ⟨by omega, by omega⟩]
theorem Over.got {t : TabM} {p : Nat × Nat} (h : Over t p) : t.got p.1 p.2 = (0, 0) := by
  unfold TabM.got
  rw [h.look]
  rfl
theorem Over.turn {t : TabM} {p : Nat × Nat} (h : Over t p) (f : EntM → EntM) : t.turn p.1 p.2 f = t := by
  unfold TabM.turn
  rw [h.look]
  rfl
/-- Where no generation goes back, what is over stays over. -/
theorem Over.set {t : TabM} {p : Nat × Nat} (h : Over t p) {i : Nat} {x x' : EntM} (hi : t[i]? = some x) (hg : x.gen ≤ x'.gen) : Over (t.set i x') p := by
  obtain ⟨y, hy, h1, h2⟩ := h
  by_cases hip : i = p.1
  · subst hip
    rw [hi] at hy
    cases hy
    exact ⟨x', by rw [List.getElem?_set_self (List.getElem?_eq_some_iff.1 hi).1], h1, by omega⟩
  · exact ⟨y, by rw [List.getElem?_set_ne hip]; exact hy, h1, h2⟩
theorem Over.open {t : TabM} {p : Nat × Nat} (h : Over t p) (kind num : Int) : Over (t.openT kind num) p := by
  unfold TabM.openT
  split
  · rename_i x hx
    exact h.set hx (Nat.le_refl _)
  · exact h
theorem live_look {t : TabM} {p : Nat × Nat} (h : p ∈ t.live) : t.look p.1 p.2 = 0 := by
  obtain ⟨x, hx, hg, hs⟩ := TabM.live_mem h
  unfold TabM.look
  rw [if_neg (by omega), Int.toNat_natCast, hx]
  show (if 1 ≤ (p.2 : Int) ∧ (p.2 : Int) < (x.gen : Int) then 30 else if (p.2 : Int) = (x.gen : Int) ∧ x.st = 1 then 0 else 5) = 0
  rw [if_neg (by omega), if_pos ⟨by omega, hs⟩]
theorem live_close {t : TabM} {p : Nat × Nat} (h : p ∈ t.live) : ∃ x, t[p.1]? = some x ∧ x.gen = p.2 ∧ t.turn p.1 p.2 EntM.closed = t.set p.1 x.closed := by
  obtain ⟨x, hx, hg, hs⟩ := TabM.live_mem h
  refine ⟨x, hx, hg, ?_⟩
  unfold TabM.turn
  rw [live_look h, Int.toNat_natCast, hx]
  rfl
theorem Over.close {t : TabM} {p q : Nat × Nat} (h : Over t q) (hp : p ∈ t.live) : Over (t.turn p.1 p.2 EntM.closed) q := by
  obtain ⟨x, hx, hg, e⟩ := live_close hp
  rw [e]
  exact h.set hx (Nat.le_succ _)
theorem over_closed {t : TabM} {p : Nat × Nat} (hf : ∀ e ∈ t, e.fine) (hp : p ∈ t.live) : Over (t.turn p.1 p.2 EntM.closed) p := by
  obtain ⟨x, hx, hg, e⟩ := live_close hp
  rw [e]
  have := (hf x (List.mem_of_getElem? hx)).1
  exact ⟨x.closed, by rw [List.getElem?_set_self (List.getElem?_eq_some_iff.1 hx).1], by omega, by show _ < x.gen + 1; omega⟩

end Go.Proofs.Ytfejlokinopjbaa
