/- Slices of the acts at a port, opened. -/
import Derived.Test.YtnbhgfnjnccakaaAct19
import Derived.Test.YtnbhgfnjnccakaaPort17
namespace Go.Proofs.Ytnbhgfnjnccakaa
open Go Go.RowKit Go.ChangeShapes Go.WideShapes
set_option linter.unusedVariables false

theorem ptrod3 {H : Type} {enc : TypeId × Value → H} {P : Program} {w : World} {base : Nat} {spare : Nat → Bool} {held : Bool} {t : TypeId} {f0 f1 f2 : Field} {fuel : Nat} {cs : List Value} {x : DataW H × List MemPlace} (ht : P.underlying t = some (.struct #[f0, f1, f2])) (h : DataW.trod enc P w base spare held fuel t cs = some x) :
    ∃ y0 y1 y2 n, x.1 = .agg [y0.1, y1.1, y2.1] ∧ cs.length = P.cellsOf t ∧ DataW.trod enc P w base spare held n f0.type ((cs.drop f0.offset).take (P.cellsOf f0.type)) = some y0 ∧
      DataW.trod enc P w base spare held n f1.type ((cs.drop f1.offset).take (P.cellsOf f1.type)) = some y1 ∧ DataW.trod enc P w base spare held n f2.type ((cs.drop f2.offset).take (P.cellsOf f2.type)) = some y2 := by
  obtain ⟨xs, n, _, rfl, hl, hlen, hf⟩ := DataW.trod_struct ht h
  match xs, hlen with
  | [y0, y1, y2], _ => exact ⟨y0, y1, y2, n, by simp, hl, by simpa using hf 0 f0 rfl, by simpa using hf 1 f1 rfl, by simpa using hf 2 f2 rfl⟩

/-- The cells of an act at a port. -/
def ActAt15 (w : World) (y : Addr) (dn kd en n : Int) (bs : List UInt8) (ra : Option Addr) (rl rc : Nat) (d : DestM) : Prop :=
  w.cell? y = some (.int .i64 dn) ∧ w.cell? ⟨y.block, y.off + 1, none⟩ = some (.int .i64 kd) ∧ w.cell? ⟨y.block, y.off + 2, none⟩ = some (.int .i64 en) ∧ w.cell? ⟨y.block, y.off + 3, none⟩ = some (.int .i64 n) ∧ w.cell? ⟨y.block, y.off + 4, none⟩ = some (.string (strB bs)) ∧ w.cell? ⟨y.block, y.off + 5, none⟩ = some (.slice ra rl rc) ∧
  w.cell? ⟨y.block, y.off + 6, none⟩ = some (.int .u8 d.a) ∧ w.cell? ⟨y.block, y.off + 7, none⟩ = some (.int .u8 d.b) ∧ w.cell? ⟨y.block, y.off + 8, none⟩ = some (.int .u8 d.c) ∧ w.cell? ⟨y.block, y.off + 9, none⟩ = some (.int .u8 d.d) ∧ w.cell? ⟨y.block, y.off + 10, none⟩ = some (.string d.name) ∧ w.cell? ⟨y.block, y.off + 11, none⟩ = some (.int .i64 d.port)
theorem ActAt15.upd {w w1 : World} {y : Addr} {dn kd en n : Int} {bs : List UInt8} {ra : Option Addr} {rl rc : Nat} {d : DestM} (h : ActAt15 w y dn kd en n bs ra rl rc d) (hu : Upd [] w w1) : ActAt15 w1 y dn kd en n bs ra rl rc d := by
  have k : ∀ {a : Addr} {u : Value}, w.cell? a = some u → w1.cell? a = some u := fun {a u} ha => by rw [hu.cell (World.block_lt_of_cell? _ _ ha) (by simp)]; exact ha
  obtain ⟨h0, h1, h2, h3, h4, h5, h6, h7, h8, h9, h10, h11⟩ := h
  exact ⟨k h0, k h1, k h2, k h3, k h4, k h5, k h6, k h7, k h8, k h9, k h10, k h11⟩
def ActRow15 (w : World) (a : Option Addr) (len : Nat) : Prop := len * 104 ≤ 140737488355328 ∧ ∀ i, i < len → ∃ (x : Addr) (dn kd en n : Int) (bs : List UInt8) (ra : Option Addr) (rl rc : Nat) (d : DestM), a = some x ∧ bs.length ≤ 140737488355328 ∧ ActAt15 w (x.add (i * 12)) dn kd en n bs ra rl rc d

set_option maxRecDepth 10000 in
theorem actRow15_of_trod {H : Type} {enc : TypeId × Value → H} {W : World} {fuel : Nat} {a : Option Addr} {len cap : Nat} {x : DataW H × List MemPlace}
    (hf : DataW.trod enc Try.prog W 0 (fun _ => true) true fuel 60 [.slice a len cap] = some x) (hr : ∀ n ∈ DataW.weights Try.prog 60 x.1, n ≤ reachBytes) : ActRow15 W a len ∧ len ≤ 9223372036854775807 := by
  have c9 : Try.prog.cellsOf 66 = 12 := by kernel_rfl
  have b9 : Try.prog.bytesOf 66 = 104 := by kernel_rfl
  have c0 : Try.prog.cellsOf 3 = 1 := by kernel_rfl
  have ce : Try.prog.cellsOf 34 = 5 := by kernel_rfl
  have cd : Try.prog.cellsOf 49 = 6 := by kernel_rfl
  rcases Go.Deep.open_slice Try.underlying60 hf with ⟨hcs, _⟩ | ⟨x, l, c, m, n, D, Pl, hcs, _, hl, hm, hmm, rfl, hx⟩
  · simp at hcs
    obtain ⟨rfl, rfl, rfl⟩ := hcs
    exact ⟨⟨by omega, fun i hi => absurd hi (Nat.not_lt_zero _)⟩, Nat.zero_le _⟩
  · simp at hcs
    obtain ⟨rfl, rfl, rfl⟩ := hcs
    simp at hmm
    have hb := hr _ (by simp only [DataW.weights, Try.underlying60, List.mem_cons]; exact Or.inl rfl)
    rw [b9] at hb
    simp [reachBytes] at hb
    refine ⟨⟨by omega, fun i hi => ?_⟩, by unfold maxLen at hm; omega⟩
    obtain ⟨cs', h1, h2⟩ := hx i (by omega)
    rw [c9] at h1
    obtain ⟨_, hlen, hc⟩ := World.cells?_some h1
    have hrw : ∀ n ∈ DataW.weights Try.prog 66 (D i), n ≤ reachBytes := fun n hn => hr n (weightsAll_part (List.mem_map.2 ⟨i, List.mem_range.2 hi, rfl⟩) Try.underlying60 rfl n hn)
    obtain ⟨y0, y1, y2, q, hy, _, k0, k1, k2⟩ := ptrod3 Try.underlying66 h2
    simp only at hy
    rw [hy] at hrw
    match cs', hlen with
    | [v0, v1, v2, v3, v4, v5, v6, v7, v8, v9, v10, v11], _ =>
      simp only [c0, ce, cd] at k0 k1 k2
      obtain ⟨n0, e0, _, _⟩ := DataW.trod_int Try.underlying3 k0
      obtain ⟨kd, en, nn, bs, ra, rl, rc, e1, hbs⟩ := event_of_trodW k1 (fun n hn => hrw n (weights_part (j := 1) (u := 34) Try.underlying66 rfl rfl n hn))
      obtain ⟨da, db, dc, dd, s, pt, e2⟩ := dest_of_trod k2
      simp at e0 e1 e2
      obtain ⟨rfl, rfl, rfl, rfl, rfl⟩ := e1
      obtain ⟨rfl, rfl, rfl, rfl, rfl, rfl⟩ := e2
      subst e0
      exact ⟨x, n0, kd, en, nn, bs, ra, rl, rc, ⟨da, db, dc, dd, s, pt⟩, rfl, hbs, hc 0 (by decide), hc 1 (by decide), hc 2 (by decide), hc 3 (by decide), hc 4 (by decide), hc 5 (by decide), hc 6 (by decide), hc 7 (by decide), hc 8 (by decide), hc 9 (by decide), hc 10 (by decide), hc 11 (by decide)⟩

end Go.Proofs.Ytnbhgfnjnccakaa
