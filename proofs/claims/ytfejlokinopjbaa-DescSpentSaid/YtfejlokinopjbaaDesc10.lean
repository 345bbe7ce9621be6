/- An entry at its last generation: the plain law of DescSpent. -/
import Derived.Test.YtfejlokinopjbaaDesc9
namespace Go.Proofs.Ytfejlokinopjbaa
open Go Go.RowKit
set_option linter.unusedVariables false

/-- The table behind k openings. -/
def spentT (n i : Nat) : Nat → TabM
  | 0 => (TabM.new n).aged i 1048576
  | k + 1 => (spentT n i k).openT k k

deriving instance DecidableEq for EntM

/-- What the law asks of the plain model, for a size and an index. -/
def spentOk (n i : Nat) : Bool :=
  (TabM.ageE (TabM.new n) i 1048576 == 0) && ((List.range n).all fun k => (spentT n i k).openE == 0 && (spentT n i k).openH.1 == (k : Int)) &&
  ((spentT n i n).look i 1048576 == 0) &&
  (let t := (spentT n i n).turn i 1048576 EntM.closed
   t.openE == 4 && decide (t.openT 1 1 = t) && t.look i 1048576 == 30 && t.used == n - 1 && t.ageE i 1048576 == 5)

theorem spent_all : ((List.range 7).all fun n => (List.range n).all fun i => spentOk n i) = true := by decide +kernel

theorem spent_facts {n i : Nat} (h : spentOk n i = true) : TabM.ageE (TabM.new n) i 1048576 = 0 ∧ (∀ k, k < n → (spentT n i k).openE = 0 ∧ (spentT n i k).openH.1 = (k : Int)) ∧ (spentT n i n).look i 1048576 = 0 ∧
    ((spentT n i n).turn i 1048576 EntM.closed).openE = 4 ∧ ((spentT n i n).turn i 1048576 EntM.closed).openT 1 1 = (spentT n i n).turn i 1048576 EntM.closed ∧ ((spentT n i n).turn i 1048576 EntM.closed).look i 1048576 = 30 ∧
    ((spentT n i n).turn i 1048576 EntM.closed).used = n - 1 ∧ ((spentT n i n).turn i 1048576 EntM.closed).ageE i 1048576 = 5 := by
  simp only [spentOk, Bool.and_eq_true, beq_iff_eq, List.all_eq_true, List.mem_range, decide_eq_true_eq] at h
  obtain ⟨⟨⟨h1, h2⟩, h3⟩, ⟨⟨⟨⟨h4, h5⟩, h6⟩, h7⟩, h8⟩⟩ := h
  exact ⟨h1, h2, h3, h4, h5, h6, h7, h8⟩

end Go.Proofs.Ytfejlokinopjbaa
