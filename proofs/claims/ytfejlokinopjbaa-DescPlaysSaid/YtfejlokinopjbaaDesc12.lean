/- The walks of the table's calls Live and Clone. -/
import Derived.Test.YtfejlokinopjbaaDesc9
namespace Go.Proofs.Ytfejlokinopjbaa
open Go Go.RowKit
set_option linter.unusedVariables false

/-- The open ones of the first k entries: where, and of which generation. -/
def TabM.liveTo (t : TabM) : Nat → List (Nat × Nat)
  | 0 => []
  | k + 1 => t.liveTo k ++ (match t[k]? with | some x => if x.st = 1 then [(k, x.gen)] else [] | none => [])
def TabM.live (t : TabM) : List (Nat × Nat) := t.liveTo t.length
/-- Handles, as cells. -/
def hcells (l : List (Nat × Nat)) : List Value := l.flatMap fun p => [.int .i64 p.1, .int .i64 p.2]

theorem hcells_append (l m : List (Nat × Nat)) : hcells (l ++ m) = hcells l ++ hcells m := by simp [hcells]
theorem hcells_length (l : List (Nat × Nat)) : (hcells l).length = l.length * 2 := by
  induction l with
  | nil => rfl
  | cons a r ih => simp only [hcells, List.flatMap_cons, List.length_append, List.length_cons, List.length_nil] at ih ⊢; omega
theorem hcells_one (l : List (Nat × Nat)) : ∀ u ∈ hcells l, u.oneCell' = true := by
  intro u hu
  obtain ⟨p, _, hp⟩ := List.mem_flatMap.1 hu
  simp at hp
  rcases hp with rfl | rfl <;> rfl
theorem hcells_at {l : List (Nat × Nat)} {i : Nat} {p : Nat × Nat} (h : l[i]? = some p) : (hcells l)[i * 2]? = some (.int .i64 p.1) ∧ (hcells l)[i * 2 + 1]? = some (.int .i64 p.2) := by
  induction l generalizing i with
  | nil => simp at h
  | cons a r ih =>
    cases i with
    | zero => simp at h; subst h; exact ⟨rfl, rfl⟩
    | succ i =>
      simp at h
      obtain ⟨h1, h2⟩ := ih h
      have e : hcells (a :: r) = .int .i64 a.1 :: .int .i64 a.2 :: hcells r := rfl
      rw [e, show (i + 1) * 2 = i * 2 + 1 + 1 by omega, show i * 2 + 1 + 1 + 1 = (i * 2 + 1) + 1 + 1 by omega]
      exact ⟨h1, h2⟩

theorem TabM.liveTo_succ {t : TabM} {k : Nat} {x : EntM} (h : t[k]? = some x) : t.liveTo (k + 1) = t.liveTo k ++ (if x.st = 1 then [(k, x.gen)] else []) := by
  rw [TabM.liveTo, h]
theorem TabM.liveTo_le (t : TabM) : ∀ k, (t.liveTo k).length ≤ k
  | 0 => Nat.le_refl _
  | k + 1 => by
    rw [TabM.liveTo, List.length_append]
    have := t.liveTo_le k
    split
    · split <;> simp <;> omega
    · simp; omega
theorem TabM.liveTo_used (t : TabM) : ∀ k, (t.liveTo k).length = (t.take k).countP (fun e => e.st == 1)
  | 0 => by simp [TabM.liveTo]
  | k + 1 => by
    rw [TabM.liveTo, List.length_append, t.liveTo_used k, List.take_add_one, List.countP_append]
    congr 1
    cases t[k]? with
    | none => simp
    | some x => by_cases h : x.st = 1 <;> simp [h]
theorem TabM.live_used (t : TabM) : t.live.length = t.used := by
  unfold TabM.live TabM.used
  rw [t.liveTo_used, List.take_length]
/-- What is in the list is open. -/
theorem TabM.live_mem {t : TabM} {p : Nat × Nat} : ∀ {k}, p ∈ t.liveTo k → ∃ x, t[p.1]? = some x ∧ x.gen = p.2 ∧ x.st = 1
  | 0, h => by cases h
  | k + 1, h => by
    rw [TabM.liveTo, List.mem_append] at h
    rcases h with h | h
    · exact TabM.live_mem h
    · split at h
      · rename_i x hx
        split at h
        · rename_i hs
          simp at h
          subst h
          exact ⟨x, hx, rfl, hs⟩
        · cases h
      · cases h

/-- What an owned slice hands to an append. -/
theorem Own.src {P : Program} {w : World} {base e size n : Nat} {v : Value} {xs : List Value} (h : Own w base e size v n xs) (h1 : ∀ u ∈ xs, u.oneCell' = true) {tx e' : TypeId} (hk : P.underlying tx = some (.slice e')) : Src P size tx v n xs w := by
  rcases h.2 with ⟨rfl, h0⟩ | ⟨g, off, cap, pre, rest, rfl, hb, hg, r⟩
  · subst h0
    have : xs = [] := List.eq_nil_of_length_eq_zero (by rw [h.1]; simp)
    subst this
    exact Src.ofNil w hk 0
  · exact Src.ofSlice w hk ⟨g, off, none⟩ n cap xs h.1 (fun j u hj => by rw [addr_add]; exact h.cell rfl hj) h1

theorem Lay.one {f : Nat → EntM → List Value} {xs : List Value} {t : TabM} (h : Lay f xs t) (hf : ∀ i e, (f i e).length = 5) (h1 : ∀ i e, ∀ u ∈ f i e, u.oneCell' = true) : ∀ u ∈ xs, u.oneCell' = true := by
  intro u hu
  obtain ⟨p, hp, rfl⟩ := List.mem_iff_getElem.1 hu
  have hl := h.1
  have hi : p / 5 < t.length := by omega
  have hj : p % 5 < (f (p / 5) t[p / 5]).length := by rw [hf]; omega
  have := h.2 (p / 5) t[p / 5] (List.getElem?_eq_getElem hi) (p % 5) _ (List.getElem?_eq_getElem hj)
  rw [show p / 5 * 5 + p % 5 = p by omega, List.getElem?_eq_getElem hp] at this
  rw [Option.some.inj this]
  exact h1 _ _ _ (List.getElem_mem hj)

theorem Try.infoHandle : (Try.prog.info? 30).map (fun i => (i.zero, i.size, i.bytes)) = some (some (.agg #[.int .i64 0, .int .i64 0]), 2, 16) := by kernel_rfl

def LivePost (w : World) (l : List (Nat × Nat)) (e : Ending) (w' : World) : Prop :=
  ∃ v, e = .returned v ∧ Own w' w.heap.size 30 2 v l.length (hcells l) ∧ Upd [] w w'

end Go.Proofs.Ytfejlokinopjbaa
