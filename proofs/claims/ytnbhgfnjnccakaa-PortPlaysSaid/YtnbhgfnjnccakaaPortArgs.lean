/- Arguments of the port's laws, opened; strings as lists of bytes. -/
import Derived.Test.YtnbhgfnjnccakaaPort8
import Derived.Test.YtnbhgfnjnccakaaPBase
import Derived.Deep.Slices
import Derived.Deep.Strs
import Derived.OpenShut
import Derived.ChangeSlices
import Derived.SizedLaws
namespace Go.Proofs.Ytnbhgfnjnccakaa
open Go Go.RowKit Go.ChangeShapes Go.WideShapes
set_option linter.unusedVariables false

theorem strB_data (s : ByteArray) : strB s.data.toList = s := by
  cases s; simp [strB]
theorem strB_append (a b : List UInt8) : strB a ++ strB b = strB (a ++ b) := by
  apply ByteArray.ext
  simp [strB, ByteArray.data_append]
theorem strB_extract (a : List UInt8) (n : Nat) : (strB a).extract 0 n = strB (a.take n) := by
  apply ByteArray.ext
  simp [strB, ByteArray.data_extract]
theorem strB_eq (a b : List UInt8) : strB a = strB b ↔ a = b := ⟨strB_inj, fun h => by rw [h]⟩

/-- A row of strings that came in. -/
def SRows (w : World) (a : Option Addr) (len : Nat) (z : Nat → List UInt8) : Prop := len * 16 ≤ 140737488355328 ∧ ∀ i, i < len → ∃ x, a = some x ∧ w.cell? (x.add i) = some (.string (strB (z i))) ∧ (z i).length ≤ 140737488355328
/-- A row of numbers that came in. -/
def IRow (w : World) (a : Option Addr) (len : Nat) (zs : List Int) : Prop := ∀ i, i < len → ∃ x, a = some x ∧ w.cell? (x.add i) = some (.int .i64 (zs.getD i 0))

theorem iRow_of_row {w : World} {a : Option Addr} {len cap : Nat} {zs : List Int}
    (h : (a = none ∧ len = 0 ∧ cap = 0 ∧ zs = []) ∨
      ∃ x, a = some x ∧ len ≤ cap ∧ cap ≤ maxLen ∧ zs.length = cap ∧ (∀ i, i < zs.length → w.cell? (x.add i) = some (.int .i64 (zs.getD i 0))) ∧ ∀ n ∈ zs, (Lit.int .i64 n).wf = true) :
    IRow w a len zs ∧ len ≤ 9223372036854775807 := by
  rcases h with ⟨rfl, rfl, rfl, rfl⟩ | ⟨x, rfl, hlc, hcm, hz, hc, hwf⟩
  · exact ⟨fun i hi => absurd hi (Nat.not_lt_zero _), Nat.zero_le _⟩
  · exact ⟨fun i hi => ⟨x, rfl, hc i (by omega)⟩, by unfold maxLen at hcm; omega⟩

theorem weightsAll_mem {H : Type} {P : Program} {e : TypeId} {d : DataW H} : ∀ {l : List (DataW H)}, d ∈ l → ∀ n ∈ DataW.weights P e d, n ∈ DataW.weightsAll P e l
  | [], h, _, _ => by cases h
  | x :: r, h, n, hn => by
    simp only [DataW.weightsAll, List.mem_append]
    rcases List.mem_cons.1 h with h | h
    · subst h; exact Or.inl hn
    · exact Or.inr (weightsAll_mem h n hn)

theorem sRows_of_trod {H : Type} {enc : TypeId × Value → H} {W : World} {fuel : Nat} {a : Option Addr} {len cap : Nat} {x : DataW H × List MemPlace}
    (hf : DataW.trod enc Try.prog W 0 (fun _ => true) true fuel 22 [.slice a len cap] = some x) (hr : ∀ n ∈ DataW.weights Try.prog 22 x.1, n ≤ reachBytes) : ∃ z, SRows W a len z ∧ len ≤ 9223372036854775807 := by
  have c9 : Try.prog.cellsOf 9 = 1 := by kernel_rfl
  have b9 : Try.prog.bytesOf 9 = 16 := by kernel_rfl
  rcases Go.Deep.open_strs Try.underlying22 Try.underlying9 c9 hf with ⟨hcs, _⟩ | ⟨x, l, c, m, Sx, hcs, _, hl, hm, hmm, rfl, hx⟩
  · simp at hcs
    obtain ⟨rfl, rfl, rfl⟩ := hcs
    exact ⟨fun _ => [], ⟨by omega, fun i hi => absurd hi (Nat.not_lt_zero _)⟩, Nat.zero_le _⟩
  · simp at hcs
    obtain ⟨rfl, rfl, rfl⟩ := hcs
    simp at hmm
    have hb := hr _ (by simp only [DataW.weights, Try.underlying22, List.mem_cons]; exact Or.inl rfl)
    rw [b9] at hb
    simp [reachBytes] at hb
    refine ⟨fun i => (Sx i).data.toList, ⟨by omega, fun i hi => ⟨x, rfl, ?_, ?_⟩⟩, by unfold maxLen at hm; omega⟩
    · rw [strB_data]; exact (hx i (by omega)).1
    · have := hr ((Sx i).data.toList).length (by
        simp only [DataW.weights, Try.underlying22, List.mem_cons, List.mem_append]
        refine Or.inr (Or.inl (weightsAll_mem (List.mem_map.2 ⟨i, List.mem_range.2 hi, rfl⟩) _ ?_))
        simp [DataW.weights])
      simp [reachBytes] at this
      simp
      omega

theorem begins_ok (a c : List UInt8) (w : World) (hl : a.length ≤ 9223372036854775807) : Calls Try.prog 19 #[.string (strB (a ++ c)), .string (strB a)] w fun e w' => e = .returned (.bool true) ∧ w = w' := by
  have h1 : (strB (a ++ c)).size = a.length + c.length := by simp [strB, ByteArray.size]
  have h2 : (strB a).size = a.length := rfl
  have h3 : (strB (a ++ c)).extract 0 a.length = strB a := by rw [strB_extract, List.take_left]
  go_enter Try.func19, Try.ntmps19
  go_wp2
  go_ret
  exact ⟨rfl, rfl⟩

end Go.Proofs.Ytnbhgfnjnccakaa
