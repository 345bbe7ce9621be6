/- A slice of calls that came in, opened. -/
import Derived.Test.YtfieggpoofemmaaRing12
import Derived.Deep.Slices
import Derived.Deep.Strs
import Derived.OpenShut
import Derived.ChangeSlices
import Derived.SizedLaws
namespace Go.Proofs.Ytfieggpoofemmaa
open Go Go.RowKit Go.ChangeShapes Go.WideShapes
set_option linter.unusedVariables false

theorem weightsAll_mem {H : Type} {P : Program} {e : TypeId} {d : DataW H} : ∀ {l : List (DataW H)}, d ∈ l → ∀ n ∈ DataW.weights P e d, n ∈ DataW.weightsAll P e l
  | [], h, _, _ => by cases h
  | x :: r, h, n, hn => by
    simp only [DataW.weightsAll, List.mem_append]
    rcases List.mem_cons.1 h with h | h
    · subst h; exact Or.inl hn
    · exact Or.inr (weightsAll_mem h n hn)

/-- A byte slice, opened. -/
theorem rd_of_trod {H : Type} {enc : TypeId × Value → H} {W : World} {fuel : Nat} {cs : List Value} {x : DataW H × List MemPlace}
    (hf : DataW.trod enc Try.prog W 0 (fun _ => true) true fuel 30 cs = some x) (hr : ∀ n ∈ DataW.weights Try.prog 30 x.1, n ≤ reachBytes) : ∃ v bs, cs = [v] ∧ Rd W v bs ∧ bs.length ≤ 140737488355328 := by
  have b5 : Try.prog.bytesOf 5 = 1 := by kernel_rfl
  rcases open_ints Try.underlying30 Try.underlying5 (by kernel_rfl) hf with ⟨rfl, _⟩ | ⟨x, l, c, zs, rfl, _, hl, hm, hz, rfl, hcell, hwz⟩
  · obtain ⟨bs, h1, h2⟩ := rd_of_row (w := W) (a := none) (len := 0) (cap := 0) (zs := []) (Or.inl ⟨rfl, rfl, rfl, rfl⟩)
    exact ⟨_, bs, rfl, h2, by omega⟩
  · obtain ⟨bs, h1, h2⟩ := rd_of_row (w := W) (a := some x) (len := l) (cap := c) (zs := zs) (Or.inr ⟨_, rfl, hl, hm, by simpa using hz, hcell, hwz⟩)
    have := hr _ (by simp only [DataW.weights, Try.underlying30, List.mem_cons]; exact Or.inl rfl)
    rw [b5] at this
    simp [lits, reachBytes] at this hz
    exact ⟨_, bs, rfl, h2, by omega⟩

theorem actRow_of_trod {H : Type} {enc : TypeId × Value → H} {W : World} {fuel : Nat} {a : Option Addr} {len cap : Nat} {x : DataW H × List MemPlace}
    (hf : DataW.trod enc Try.prog W 0 (fun _ => true) true fuel 41 [.slice a len cap] = some x) (hr : ∀ n ∈ DataW.weights Try.prog 41 x.1, n ≤ reachBytes) : ActRow W a len ∧ len ≤ 9223372036854775807 := by
  have c3 : Try.prog.cellsOf 46 = 3 := by kernel_rfl
  have c0 : Try.prog.cellsOf 3 = 1 := by kernel_rfl
  have c5 : Try.prog.cellsOf 30 = 1 := by kernel_rfl
  rcases Go.Deep.open_slice Try.underlying41 hf with ⟨hcs, _⟩ | ⟨x, l, c, m, n, D, Pl, hcs, _, hl, hm, hmm, rfl, hx⟩
  · simp at hcs
    obtain ⟨rfl, rfl, rfl⟩ := hcs
    exact ⟨fun i hi => absurd hi (Nat.not_lt_zero _), Nat.zero_le _⟩
  · simp at hcs
    obtain ⟨rfl, rfl, rfl⟩ := hcs
    simp at hmm
    refine ⟨fun i hi => ?_, by unfold maxLen at hm; omega⟩
    obtain ⟨cs', h1, h2⟩ := hx i (by omega)
    have hrD : ∀ n ∈ DataW.weights Try.prog 46 (D i), n ≤ reachBytes := fun n hn => hr n (by
      simp only [DataW.weights, Try.underlying41, List.mem_cons, List.mem_append]
      exact Or.inr (Or.inl (weightsAll_mem (List.mem_map.2 ⟨i, List.mem_range.2 hi, rfl⟩) n hn)))
    rw [c3] at h1
    obtain ⟨_, hlen, hc⟩ := World.cells?_some h1
    obtain ⟨y0, y1, y2, q, hy, _, k0, k1, k2⟩ := Go.Deep.trod_struct3 Try.underlying46 h2
    match cs', hlen with
    | [v0, v1, v2], _ =>
      simp only [c0, c5] at k0 k1 k2
      obtain ⟨n0, e0, _, _⟩ := DataW.trod_int Try.underlying3 k0
      obtain ⟨n1, e1, _, _⟩ := DataW.trod_int Try.underlying3 k1
      obtain ⟨v, bs, e2, hr, hb⟩ := rd_of_trod k2 (fun n hn => hrD n (by
        rw [show D i = _ from congrArg Prod.fst hy]
        simp only [DataW.weights, Try.underlying46, DataW.weightsEach, List.map_cons, List.mem_append]
        exact Or.inr (Or.inr (Or.inl hn))))
      simp at e0 e1 e2
      subst e0 e1 e2
      have q0 := hc 0 (by decide)
      have q1 := hc 1 (by decide)
      have q2 := hc 2 (by decide)
      exact ⟨x, n0, n1, v2, bs, rfl, q0, q1, q2, hr, hb⟩

end Go.Proofs.Ytfieggpoofemmaa
