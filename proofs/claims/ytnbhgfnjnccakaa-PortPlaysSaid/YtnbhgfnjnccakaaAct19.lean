/- Slices of what happens at a relay, and at a port, opened. -/
import Derived.Test.YtnbhgfnjnccakaaPortArg2
import Derived.Deep.Slices
import Derived.SizedLaws
namespace Go.Proofs.Ytnbhgfnjnccakaa
open Go Go.RowKit Go.ChangeShapes Go.WideShapes
set_option linter.unusedVariables false

theorem weights_part {H : Type} {P : Program} {t : TypeId} {fs : Array Field} {parts : List (DataW H)} {j : Nat} {u : TypeId} {d : DataW H} (ht : P.underlying t = some (.struct fs)) (hu : (fs.toList.map (·.type))[j]? = some u) (hd : parts[j]? = some d) :
    ∀ n ∈ DataW.weights P u d, n ∈ DataW.weights P t (.agg parts) := fun n hn => by
  simp only [DataW.weights, ht]
  exact DataW.weights_mem_each hu hd n hn

/-- The five cells of an event, and its bytes within the form's reach. -/
theorem event_of_trodW {H : Type} {enc : TypeId × Value → H} {W : World} {fuel : Nat} {cs : List Value} {x : DataW H × List MemPlace}
    (hf : DataW.trod enc Try.prog W 0 (fun _ => true) true fuel 34 cs = some x) (hr : ∀ n ∈ DataW.weights Try.prog 34 x.1, n ≤ reachBytes) :
    ∃ (kd en n : Int) (bs : List UInt8) (ra : Option Addr) (rl rc : Nat), cs = [.int .i64 kd, .int .i64 en, .int .i64 n, .string (strB bs), .slice ra rl rc] ∧ bs.length ≤ 140737488355328 := by
  have c0 : Try.prog.cellsOf 3 = 1 := by kernel_rfl
  have c9 : Try.prog.cellsOf 9 = 1 := by kernel_rfl
  have cr : Try.prog.cellsOf 32 = 1 := by kernel_rfl
  have ce : Try.prog.cellsOf 34 = 5 := by kernel_rfl
  obtain ⟨y0, y1, y2, y3, y4, n, hx, hl, h0, h1, h2, h3, h4⟩ := ptrod5 Try.underlying34 hf
  rw [hx] at hr
  rw [ce] at hl
  obtain ⟨v0, v1, v2, v3, v4, rfl⟩ := list5 hl
  simp only [c0, c9, cr] at h0 h1 h2 h3 h4
  obtain ⟨n0, e0, _, _⟩ := DataW.trod_int Try.underlying3 h0
  obtain ⟨n1, e1, _, _⟩ := DataW.trod_int Try.underlying3 h1
  obtain ⟨n2, e2, _, _⟩ := DataW.trod_int Try.underlying3 h2
  obtain ⟨s, e3, hy3, _⟩ := DataW.trod_string Try.underlying9 h3
  have hsz : s.data.toList.length ≤ 140737488355328 := by
    have := hr s.data.toList.length (weights_part (j := 3) (u := 9) Try.underlying34 rfl rfl _ (by rw [hy3]; show _ ∈ [s.data.toList.length]; exact List.mem_singleton.2 rfl))
    unfold reachBytes at this
    omega
  simp at e0 e1 e2 e3
  subst e0 e1 e2 e3
  rcases Go.Deep.open_slice Try.underlying32 h4 with ⟨hcs, _⟩ | ⟨x, l, c, m, n, D, Pl, hcs, _⟩
  · simp at hcs
    subst hcs
    exact ⟨_, _, _, s.data.toList, _, _, _, by rw [strB_data], hsz⟩
  · simp at hcs
    subst hcs
    exact ⟨_, _, _, s.data.toList, _, _, _, by rw [strB_data], hsz⟩

/-- The cells of what happens at a relay. -/
def ActAt19 (w : World) (y : Addr) (dn av bv mn kd en n : Int) (bs : List UInt8) (ra : Option Addr) (rl rc : Nat) : Prop :=
  w.cell? y = some (.int .i64 dn) ∧ w.cell? ⟨y.block, y.off + 1, none⟩ = some (.int .i64 av) ∧ w.cell? ⟨y.block, y.off + 2, none⟩ = some (.int .i64 bv) ∧ w.cell? ⟨y.block, y.off + 3, none⟩ = some (.int .i64 mn) ∧
  w.cell? ⟨y.block, y.off + 4, none⟩ = some (.int .i64 kd) ∧ w.cell? ⟨y.block, y.off + 5, none⟩ = some (.int .i64 en) ∧ w.cell? ⟨y.block, y.off + 6, none⟩ = some (.int .i64 n) ∧ w.cell? ⟨y.block, y.off + 7, none⟩ = some (.string (strB bs)) ∧ w.cell? ⟨y.block, y.off + 8, none⟩ = some (.slice ra rl rc)
theorem ActAt19.upd {w w1 : World} {y : Addr} {dn av bv mn kd en n : Int} {bs : List UInt8} {ra : Option Addr} {rl rc : Nat} (h : ActAt19 w y dn av bv mn kd en n bs ra rl rc) (hu : Upd [] w w1) : ActAt19 w1 y dn av bv mn kd en n bs ra rl rc := by
  have k : ∀ {a : Addr} {u : Value}, w.cell? a = some u → w1.cell? a = some u := fun {a u} ha => by rw [hu.cell (World.block_lt_of_cell? _ _ ha) (by simp)]; exact ha
  obtain ⟨h0, h1, h2, h3, h4, h5, h6, h7, h8⟩ := h
  exact ⟨k h0, k h1, k h2, k h3, k h4, k h5, k h6, k h7, k h8⟩
def ActRow19 (w : World) (a : Option Addr) (len : Nat) : Prop := len * 96 ≤ 140737488355328 ∧ ∀ i, i < len → ∃ (x : Addr) (dn av bv mn kd en n : Int) (bs : List UInt8) (ra : Option Addr) (rl rc : Nat), a = some x ∧ bs.length ≤ 140737488355328 ∧ ActAt19 w (x.add (i * 9)) dn av bv mn kd en n bs ra rl rc

theorem weightsAll_part {H : Type} {P : Program} {e : TypeId} {d : DataW H} {l : List (DataW H)} (hd : d ∈ l) {elems : List (DataW H)} {t : TypeId} {sp : List (DataW H)} (ht : P.underlying t = some (.slice e)) (hl : l = elems) : ∀ n ∈ DataW.weights P e d, n ∈ DataW.weights P t (.slice elems sp) := fun n hn => by
  subst hl
  simp only [DataW.weights, ht, List.mem_cons, List.mem_append]
  exact Or.inr (Or.inl (weightsAll_mem hd n hn))

set_option maxRecDepth 10000 in
theorem actRow19_of_trod {H : Type} {enc : TypeId × Value → H} {W : World} {fuel : Nat} {a : Option Addr} {len cap : Nat} {x : DataW H × List MemPlace}
    (hf : DataW.trod enc Try.prog W 0 (fun _ => true) true fuel 79 [.slice a len cap] = some x) (hr : ∀ n ∈ DataW.weights Try.prog 79 x.1, n ≤ reachBytes) : ActRow19 W a len ∧ len ≤ 9223372036854775807 := by
  have c9 : Try.prog.cellsOf 81 = 9 := by kernel_rfl
  have b9 : Try.prog.bytesOf 81 = 96 := by kernel_rfl
  have c0 : Try.prog.cellsOf 3 = 1 := by kernel_rfl
  have ce : Try.prog.cellsOf 34 = 5 := by kernel_rfl
  rcases Go.Deep.open_slice Try.underlying79 hf with ⟨hcs, _⟩ | ⟨x, l, c, m, n, D, Pl, hcs, _, hl, hm, hmm, rfl, hx⟩
  · simp at hcs
    obtain ⟨rfl, rfl, rfl⟩ := hcs
    exact ⟨⟨by omega, fun i hi => absurd hi (Nat.not_lt_zero _)⟩, Nat.zero_le _⟩
  · simp at hcs
    obtain ⟨rfl, rfl, rfl⟩ := hcs
    simp at hmm
    have hb := hr _ (by simp only [DataW.weights, Try.underlying79, List.mem_cons]; exact Or.inl rfl)
    rw [b9] at hb
    simp [reachBytes] at hb
    refine ⟨⟨by omega, fun i hi => ?_⟩, by unfold maxLen at hm; omega⟩
    obtain ⟨cs', h1, h2⟩ := hx i (by omega)
    rw [c9] at h1
    obtain ⟨_, hlen, hc⟩ := World.cells?_some h1
    have hrw : ∀ n ∈ DataW.weights Try.prog 81 (D i), n ≤ reachBytes := fun n hn => hr n (weightsAll_part (List.mem_map.2 ⟨i, List.mem_range.2 hi, rfl⟩) Try.underlying79 rfl n hn)
    obtain ⟨y0, y1, y2, y3, y4, q, hy, _, k0, k1, k2, k3, k4⟩ := ptrod5 Try.underlying81 h2
    simp only at hy
    rw [hy] at hrw
    match cs', hlen with
    | [v0, v1, v2, v3, v4, v5, v6, v7, v8], _ =>
      simp only [c0, ce] at k0 k1 k2 k3 k4
      obtain ⟨n0, e0, _, _⟩ := DataW.trod_int Try.underlying3 k0
      obtain ⟨n1, e1, _, _⟩ := DataW.trod_int Try.underlying3 k1
      obtain ⟨n2, e2, _, _⟩ := DataW.trod_int Try.underlying3 k2
      obtain ⟨n3, e3, _, _⟩ := DataW.trod_int Try.underlying3 k3
      obtain ⟨kd, en, nn, bs, ra, rl, rc, e4, hbs⟩ := event_of_trodW k4 (fun n hn => hrw n (weights_part (j := 4) (u := 34) Try.underlying81 rfl rfl n hn))
      simp at e0 e1 e2 e3 e4
      obtain ⟨rfl, rfl, rfl, rfl, rfl⟩ := e4
      subst e0 e1 e2 e3
      exact ⟨x, n0, n1, n2, n3, kd, en, nn, bs, ra, rl, rc, rfl, hbs, hc 0 (by decide), hc 1 (by decide), hc 2 (by decide), hc 3 (by decide), hc 4 (by decide), hc 5 (by decide), hc 6 (by decide), hc 7 (by decide), hc 8 (by decide)⟩

end Go.Proofs.Ytnbhgfnjnccakaa
