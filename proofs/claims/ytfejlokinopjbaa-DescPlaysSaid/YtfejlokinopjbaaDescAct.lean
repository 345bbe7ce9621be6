/- A slice of calls that came in, opened. -/
import Derived.Test.YtfejlokinopjbaaDesc12
import Derived.Deep.Slices
import Derived.Deep.Strs
import Derived.OpenShut
import Derived.ChangeSlices
import Derived.SizedLaws
namespace Go.Proofs.Ytfejlokinopjbaa
open Go Go.RowKit Go.ChangeShapes Go.WideShapes
set_option linter.unusedVariables false

/-- A row of calls that came in: what each is, its handle, its two numbers. -/
def ActRow (w : World) (a : Option Addr) (len : Nat) : Prop := len * 40 ≤ 140737488355328 ∧ ∀ i, i < len → ∃ x kd ix gen kind num, a = some x ∧ w.cell? (x.add (i * 5)) = some (.int .i64 kd) ∧ w.cell? ⟨(x.add (i * 5)).block, (x.add (i * 5)).off + 1, none⟩ = some (.int .i64 ix) ∧
  w.cell? ⟨(x.add (i * 5)).block, (x.add (i * 5)).off + 2, none⟩ = some (.int .i64 gen) ∧ w.cell? ⟨(x.add (i * 5)).block, (x.add (i * 5)).off + 3, none⟩ = some (.int .i64 kind) ∧ w.cell? ⟨(x.add (i * 5)).block, (x.add (i * 5)).off + 4, none⟩ = some (.int .i64 num)

theorem trod_struct4 {H : Type} {enc : TypeId × Value → H} {P : Program} {w : World} {base : Nat} {spare : Nat → Bool} {held : Bool} {t : TypeId} {f0 f1 f2 f3 : Field} {fuel : Nat} {cs : List Value} {x : DataW H × List MemPlace} (ht : P.underlying t = some (.struct #[f0, f1, f2, f3])) (h : DataW.trod enc P w base spare held fuel t cs = some x) :
    ∃ y0 y1 y2 y3 n, x.1 = .agg [y0.1, y1.1, y2.1, y3.1] ∧ DataW.trod enc P w base spare held n f0.type ((cs.drop f0.offset).take (P.cellsOf f0.type)) = some y0 ∧
      DataW.trod enc P w base spare held n f1.type ((cs.drop f1.offset).take (P.cellsOf f1.type)) = some y1 ∧ DataW.trod enc P w base spare held n f2.type ((cs.drop f2.offset).take (P.cellsOf f2.type)) = some y2 ∧ DataW.trod enc P w base spare held n f3.type ((cs.drop f3.offset).take (P.cellsOf f3.type)) = some y3 := by
  obtain ⟨xs, n, _, rfl, hl, hlen, hf⟩ := DataW.trod_struct ht h
  match xs, hlen with
  | [y0, y1, y2, y3], _ => exact ⟨y0, y1, y2, y3, n, by simp, by simpa using hf 0 f0 rfl, by simpa using hf 1 f1 rfl, by simpa using hf 2 f2 rfl, by simpa using hf 3 f3 rfl⟩
theorem trod_struct2 {H : Type} {enc : TypeId × Value → H} {P : Program} {w : World} {base : Nat} {spare : Nat → Bool} {held : Bool} {t : TypeId} {f0 f1 : Field} {fuel : Nat} {cs : List Value} {x : DataW H × List MemPlace} (ht : P.underlying t = some (.struct #[f0, f1])) (h : DataW.trod enc P w base spare held fuel t cs = some x) :
    ∃ y0 y1 n, x.1 = .agg [y0.1, y1.1] ∧ DataW.trod enc P w base spare held n f0.type ((cs.drop f0.offset).take (P.cellsOf f0.type)) = some y0 ∧
      DataW.trod enc P w base spare held n f1.type ((cs.drop f1.offset).take (P.cellsOf f1.type)) = some y1 := by
  obtain ⟨xs, n, _, rfl, hl, hlen, hf⟩ := DataW.trod_struct ht h
  match xs, hlen with
  | [y0, y1], _ => exact ⟨y0, y1, n, by simp, by simpa using hf 0 f0 rfl, by simpa using hf 1 f1 rfl⟩

theorem actRow_of_trod {H : Type} {enc : TypeId × Value → H} {W : World} {fuel : Nat} {a : Option Addr} {len cap : Nat} {x : DataW H × List MemPlace}
    (hf : DataW.trod enc Try.prog W 0 (fun _ => true) true fuel 38 [.slice a len cap] = some x) (hr : ∀ n ∈ DataW.weights Try.prog 38 x.1, n ≤ reachBytes) : ActRow W a len ∧ len ≤ 9223372036854775807 := by
  have c5 : Try.prog.cellsOf 42 = 5 := by kernel_rfl
  have b5 : Try.prog.bytesOf 42 = 40 := by kernel_rfl
  have c0 : Try.prog.cellsOf 3 = 1 := by kernel_rfl
  have c2 : Try.prog.cellsOf 30 = 2 := by kernel_rfl
  rcases Go.Deep.open_slice Try.underlying38 hf with ⟨hcs, _⟩ | ⟨x, l, c, m, n, D, Pl, hcs, _, hl, hm, hmm, rfl, hx⟩
  · simp at hcs
    obtain ⟨rfl, rfl, rfl⟩ := hcs
    exact ⟨⟨by omega, fun i hi => absurd hi (Nat.not_lt_zero _)⟩, Nat.zero_le _⟩
  · simp at hcs
    obtain ⟨rfl, rfl, rfl⟩ := hcs
    simp at hmm
    have hb := hr _ (by simp only [DataW.weights, Try.underlying38, List.mem_cons]; exact Or.inl rfl)
    rw [b5] at hb
    simp [reachBytes] at hb
    refine ⟨⟨by omega, fun i hi => ?_⟩, by unfold maxLen at hm; omega⟩
    obtain ⟨cs', h1, h2⟩ := hx i (by omega)
    rw [c5] at h1
    obtain ⟨_, hlen, hc⟩ := World.cells?_some h1
    obtain ⟨y0, y1, y2, y3, q, hy, k0, k1, k2, k3⟩ := trod_struct4 Try.underlying42 h2
    match cs', hlen with
    | [v0, v1, v2, v3, v4], _ =>
      simp only [c0, c2] at k0 k1 k2 k3
      obtain ⟨n0, e0, _, _⟩ := DataW.trod_int Try.underlying3 k0
      obtain ⟨z0, z1, q', hz, j0, j1⟩ := trod_struct2 Try.underlying30 k1
      simp only [c0] at j0 j1
      obtain ⟨n1, e1, _, _⟩ := DataW.trod_int Try.underlying3 j0
      obtain ⟨n2, e2, _, _⟩ := DataW.trod_int Try.underlying3 j1
      obtain ⟨n3, e3, _, _⟩ := DataW.trod_int Try.underlying3 k2
      obtain ⟨n4, e4, _, _⟩ := DataW.trod_int Try.underlying3 k3
      simp at e0 e1 e2 e3 e4
      subst e0 e1 e2 e3 e4
      exact ⟨x, n0, n1, n2, n3, n4, rfl, hc 0 (by decide), hc 1 (by decide), hc 2 (by decide), hc 3 (by decide), hc 4 (by decide)⟩

end Go.Proofs.Ytfejlokinopjbaa
