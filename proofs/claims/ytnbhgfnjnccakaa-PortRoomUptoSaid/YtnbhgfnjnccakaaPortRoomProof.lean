/- Where what it reads is of bulk at most 1048576 the law PortRoom returns true, and its arguments read behind the call as they read before. -/
import Derived.Test.YtnbhgfnjnccakaaRows
import Derived.WalkKit
import Derived.ProofKit
import Derived.OpenShut
import Derived.ShutString
import Derived.ChangeOld
import Derived.Below
import Derived.Deep.Matrix
import Derived.JoinedCond
import Derived.Test.YtnbhgfnjnccakaaPort15
namespace Go.Proofs.Ytnbhgfnjnccakaa.portRoom
open Go.ChangeShapes Go.WideShapes Go.ChangeAt Go.RowKit
open Go.ChangeMaps (open_string shut_string)
open Go.Deep (open_int_rows)
set_option linter.unusedVariables false

theorem own : ownKnob Try.prog.godebug = none := by kernel_rfl
theorem laidOut : laidOutB Try.prog = true := by kernel_rfl

theorem walk (w : World)
    (a0 : Option Addr) (len0 cap0 : Nat) (z0 : List Int) (w0 : IRow w a0 len0 z0) (l0 : len0 ≤ 9223372036854775807)
    (a1 : Option Addr) (len1 cap1 : Nat) (z1 : Nat → List UInt8) (w1 : SRows w a1 len1 z1) (l1 : len1 ≤ 9223372036854775807)
    (a2 : Int) (w2 : (Lit.int .i64 a2).wf = true)
    (u0 : len0 ≤ 1048576)
    (u1 : len1 ≤ 1048576) :
    Calls Try.prog 4 #[.slice a0 len0 cap0, .slice a1 len1 cap1, .int .i64 a2] w fun e w' => e = .returned (.bool true) ∧ Below w.heap.size w w' := by
  exact (portRoom_law w a0 len0 cap0 z0 w0 l0 a1 len1 cap1 z1 w1 l1 a2 u0 u1).mono fun e w' ⟨he, hu⟩ => ⟨he, hu.below (by simp)⟩

/-- A slice's bulk is its length at the least. -/
theorem slice_bulk {H : Type} {enc : TypeId × Value → H} {w : World} {base fuel : Nat} {held : Bool} {t e : TypeId} {a : Option Addr} {len cap : Nat} {x : DataW H × List MemPlace} (ht : Try.prog.underlying t = some (.slice e)) (ce : Try.prog.cellsOf e = 1)
    (h : DataW.trod enc Try.prog w base (fun _ => true) held fuel t [.slice a len cap] = some x) : len ≤ Rows.uptoBulk x.1 := by
  have many : ∀ (l : List (DataW H)), l.length ≤ Rows.uptoBulkAll l := by
    intro l
    induction l with
    | nil => exact Nat.zero_le _
    | cons d r ih =>
      have h1 : 1 ≤ Rows.uptoBulk d := by
        cases d with
        | lit q => cases q <;> simp [Rows.uptoBulk]
        | _ => simp [Rows.uptoBulk]
      simp only [Rows.uptoBulkAll, List.length_cons]
      omega
  rcases Go.Deep.open_slice1 ht ce h with ⟨hcs, _⟩ | ⟨x, l, c, m, n, V, D, Pl, hcs, _, _, _, _, rfl, _⟩
  · simp at hcs
    omega
  · simp at hcs
    obtain ⟨_, rfl, _⟩ := hcs
    have := many ((List.range len).map D)
    simp only [List.length_map, List.length_range] at this
    simp only [Rows.uptoBulk]
    omega

theorem uptoBulk_mem {H : Type} {d : DataW H} : ∀ {l : List (DataW H)}, d ∈ l → Rows.uptoBulk d ≤ Rows.uptoBulkAll l
  | [], h => by cases h
  | x :: r, h => by
    simp only [Rows.uptoBulkAll]
    rcases List.mem_cons.1 h with h | h
    · subst h; omega
    · have := uptoBulk_mem h; omega
theorem uptoBulk_strs {H : Type} (f : Nat → List UInt8) : ∀ n, n ≤ Rows.uptoBulkAll ((List.range n).map fun i => (DataW.lit (.string (f i)) : DataW H)) := by
  have many : ∀ (l : List Nat), l.length ≤ Rows.uptoBulkAll (l.map fun i => (DataW.lit (.string (f i)) : DataW H)) := by
    intro l
    induction l with
    | nil => exact Nat.zero_le _
    | cons d r ih =>
      simp only [List.map_cons, Rows.uptoBulkAll, Rows.uptoBulk, List.length_cons]
      omega
  intro n
  have := many (List.range n)
  rwa [List.length_range] at this
theorem sRows_bulk {H : Type} {enc : TypeId × Value → H} {W : World} {fuel : Nat} {a : Option Addr} {len cap : Nat} {x : DataW H × List MemPlace}
    (hf : DataW.trod enc Try.prog W 0 (fun _ => true) true fuel 22 [.slice a len cap] = some x) : ∃ z, (Rows.uptoBulk x.1 ≤ 1048576 → SRows W a len z) ∧ len ≤ 9223372036854775807 := by
  have c9 : Try.prog.cellsOf 9 = 1 := by kernel_rfl
  rcases Go.Deep.open_strs Try.underlying22 Try.underlying9 c9 hf with ⟨hcs, _⟩ | ⟨x, l, c, m, Sx, hcs, _, hl, hm, hmm, rfl, hx⟩
  · simp at hcs
    obtain ⟨rfl, rfl, rfl⟩ := hcs
    exact ⟨fun _ => [], fun _ => ⟨by omega, fun i hi => absurd hi (Nat.not_lt_zero _)⟩, Nat.zero_le _⟩
  · simp at hcs
    obtain ⟨rfl, rfl, rfl⟩ := hcs
    simp at hmm
    refine ⟨fun i => (Sx i).data.toList, fun hb => ?_, by unfold maxLen at hm; omega⟩
    simp only [Rows.uptoBulk] at hb
    have h1 := uptoBulk_strs (H := H) (fun i => (Sx i).data.toList) len
    refine ⟨by omega, fun i hi => ⟨x, rfl, by rw [strB_data]; exact (hx i (by omega)).1, ?_⟩⟩
    have h2 := uptoBulk_mem (H := H) (d := DataW.lit (.string (Sx i).data.toList)) (List.mem_map.2 ⟨i, List.mem_range.2 hi, rfl⟩ : _ ∈ (List.range len).map fun i => DataW.lit (.string (Sx i).data.toList))
    simp only [Rows.uptoBulk] at h2
    show (Sx i).data.toList.length ≤ _
    omega

set_option maxRecDepth 100000 in
theorem contract (H : Type) (enc : TypeId × Value → H) (W : World) (base : Nat) (args : Array Value) (ds gs : List (DataW H)) (before : List MemPlace)
    (hval0 : ∀ (j : Nat) t v, Try.f4.params[j]? = some t → args[j]? = some v → Value.okWide Try.prog W .any base t v)
    (hW : DataW.Whole enc Try.prog Try.f4.params.toList Rows.portRoomSpec.vars false W args.toList ds gs before) (hk : Rows.uptoSmall H (ds ++ gs) = true) :
    Calls Try.prog 4 args W fun e W' => ∃ v, e = .returned v ∧ Rows.portRoomSpec.post enc Try.prog Try.f4 false true false false W args v W' := by
  have hval : ∀ (j : Nat) t v, Try.f4.params[j]? = some t → args[j]? = some v → Value.okWide Try.prog W .any base t v := hval0
  have hW' := hW
  obtain ⟨p, q, hA0, hV, rfl, hfz, hnd⟩ := hW
  have hA : DataW.TrodAll enc Try.prog W 0 (fun _ => true) true Try.f4.params.toList args.toList ds p := hA0
  rw [Try.params4] at hA hval
  obtain ⟨v0, vs0, d0, ds0, p0, q0, hargs, rfl, rfl, h0, r0⟩ := trodAll_cons hA
  obtain ⟨v1, vs1, d1, ds1, p1, q1, rfl, rfl, rfl, h1, r1⟩ := trodAll_cons r0
  obtain ⟨v2, vs2, d2, ds2, p2, q2, rfl, rfl, rfl, h2, r2⟩ := trodAll_cons r1
  obtain ⟨rfl, rfl, rfl⟩ := trodAll_nil r2
  obtain rfl : args = #[v0, v1, v2] := by cases args; simp_all
  obtain ⟨rfl, rfl⟩ := trodVars_none hV
  obtain ⟨a0, len0, cap0, rfl⟩ := okWide_slice Try.underlying23 (hval 0 23 v0 rfl rfl)
  have k0 := h0
  have u0 : len0 ≤ Rows.uptoBulk d0 := by obtain ⟨m, hm⟩ := k0; exact slice_bulk Try.underlying23 (by kernel_rfl) hm
  have lt0 : ∀ x ∈ p0, x.block < W.heap.size := by obtain ⟨m, hm⟩ := k0; exact DataW.trod_lt m _ _ _ hm
  obtain ⟨zz0, ww0⟩ : ∃ zs : List Int, (a0 = none ∧ len0 = 0 ∧ cap0 = 0 ∧ zs = []) ∨ ∃ x, a0 = some x ∧ len0 ≤ cap0 ∧ cap0 ≤ maxLen ∧ zs.length = cap0 ∧ (∀ i, i < zs.length → W.cell? (x.add i) = some (.int .i64 (zs.getD i 0))) ∧ ∀ n ∈ zs, (Lit.int .i64 n).wf = true := by
    obtain ⟨fuel, hf⟩ := h0
    rcases open_ints Try.underlying23 Try.underlying3 (by kernel_rfl) hf with ⟨hcs, _⟩ | ⟨x, l, c, zs, hcs, _, hl, hm, hz, _, hcell, hwz⟩
    · simp [Value.cells] at hcs
      obtain ⟨rfl, rfl, rfl⟩ := hcs
      exact ⟨[], .inl ⟨rfl, rfl, rfl, rfl⟩⟩
    · simp [Value.cells] at hcs
      obtain ⟨rfl, rfl, rfl⟩ := hcs
      exact ⟨zs, .inr ⟨_, rfl, hl, hm, by simpa using hz, hcell, hwz⟩⟩
  obtain ⟨w0, l0⟩ := iRow_of_row ww0
  obtain ⟨a1, len1, cap1, rfl⟩ := okWide_slice Try.underlying22 (hval 1 22 v1 rfl rfl)
  have k1 := h1
  have u1 : len1 ≤ Rows.uptoBulk d1 := by obtain ⟨m, hm⟩ := k1; exact slice_bulk Try.underlying22 (by kernel_rfl) hm
  have lt1 : ∀ x ∈ p1, x.block < W.heap.size := by obtain ⟨m, hm⟩ := k1; exact DataW.trod_lt m _ _ _ hm
  obtain ⟨z1, w1, l1⟩ : ∃ z, (Rows.uptoBulk d1 ≤ 1048576 → SRows W a1 len1 z) ∧ len1 ≤ 9223372036854775807 := by obtain ⟨fuel, hf⟩ := h1; exact sRows_bulk hf
  obtain ⟨a2, rfl, rfl, rfl, w2⟩ := open_int Try.underlying3 (hval 2 3 v2 rfl rfl) h2
  clear hA0 hval0
  have hb := of_decide_eq_true hk
  simp only [List.append_nil, Rows.uptoBulkAll] at hb
  have w1 := w1 (by omega)
  refine (walk W a0 len0 cap0 zz0 w0 l0 a1 len1 cap1 z1 w1 l1 a2 w2 (by omega) (by omega)).mono fun e W' ⟨he, bel⟩ => ?_
  subst he
  exact ⟨_, rfl, _, _, _, [], _, [], hW', trodAll_mk1 (shut_bool Try.underlying4 _), (trodAll_cons_mk (Below.trod laidOut (by kernel_rfl) (of_decide_eq_true (by kernel_rfl)) k0 bel lt0) (trodAll_cons_mk (Below.trod laidOut (by kernel_rfl) (of_decide_eq_true (by kernel_rfl)) k1 bel lt1) (trodAll_cons_mk (shut_int Try.underlying3 w2) trodAll_mk0))), rfl, bel.frame _, fun h => by cases h⟩

set_option maxRecDepth 100000 in
theorem lifted (os : Os) (started : os.Started) (H : Type) (enc : TypeId × Value → H) (F : Stop.Interp) :
    ReturnsInHanded {} Try.checked os 4 .any ((Rows.OpenSpec.upto Rows.portRoomSpec).pre6 enc Try.prog Try.f4 Rows.portRoomUptoRow.domain false) (((Rows.OpenSpec.upto Rows.portRoomSpec).at F).post enc Try.prog Try.f4 false true false false) := by
  refine returnsInHanded_of_cond (C := Try.checked) (s := Rows.OpenSpec.upto Rows.portRoomSpec) (k := Rows.uptoSmall) rfl own started (by kernel_rfl) Try.func4
    (OpenSpec.witness (enc := enc) (C := Try.checked) (s := Rows.OpenSpec.upto Rows.portRoomSpec) (k := Rows.uptoSmall) rfl false ⟨#[], #[.slice none 0 0, .slice none 0 0, .int .i64 0], []⟩ 8 (by kernel_rfl) (by kernel_rfl) (by kernel_rfl)
      (x := ([.nil, .nil, .lit (.int .i64 0)], [], [])) (by kernel_rfl) rfl (by kernel_rfl)) ?_
  intro W base args ds gs before hval hW _ hk _
  exact contract H enc W base args ds gs before hval hW hk

theorem over : Rows.portRoomUptoRow.holds Try.pinned (Rows.OpenSpec.upto Rows.portRoomSpec) :=
  OpenClaim.holds_of_cond 4 Try.f4 rfl rfl rfl rfl rfl rfl rfl ⟨rfl, rfl, rfl, rfl, rfl⟩ rfl rfl rfl rfl rfl (by kernel_rfl) Try.func4 (by kernel_rfl)
    (of_decide_eq_true (by kernel_rfl)) (by unfold Func.isWrapper; first | (rw [if_pos (by decide +kernel)]; kernel_rfl) | (rw [if_neg (by decide +kernel)]; exact ⟨rfl, rfl⟩))
    (fun os started H enc _ F => lifted os started H enc F)

theorem proved : Rows.PortRoomUptoSaid := over
#print axioms proved
end Go.Proofs.Ytnbhgfnjnccakaa.portRoom
