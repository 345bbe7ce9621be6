/- What a table of entries is, in plain words, and how it lies in memory. No Go text is walked here. -/
import Derived.Test.YtfejlokinopjbaaMem
namespace Go.Proofs.Ytfejlokinopjbaa
open Go Go.RowKit
set_option linter.unusedVariables false

/-- An entry: its generation; 0 free, 1 open, 2 spent; what it has. -/
structure EntM where
  gen : Nat
  st : Nat
  kind : Int
  num : Int

abbrev TabM := List EntM

def TabM.new (n : Nat) : TabM := List.replicate n ⟨1, 0, 0, 0⟩
/-- The least free entry (the length: none). -/
def TabM.freeIx (t : TabM) : Nat := t.findIdx (fun e => e.st == 0)
def TabM.used (t : TabM) : Nat := t.countP (fun e => e.st == 1)
def EntM.opened (e : EntM) (kind num : Int) : EntM := { e with st := 1, kind := kind, num := num }
def EntM.closed (e : EntM) : EntM := ⟨e.gen + 1, if 1048576 < e.gen + 1 then 2 else 0, 0, 0⟩
/-- What is wrong with a handle. -/
def TabM.look (t : TabM) (ix gen : Int) : Nat :=
  if ix < 0 then 5 else
    match t[ix.toNat]? with
    | none => 5
    | some e => if 1 ≤ gen ∧ gen < e.gen then 30 else if gen = e.gen ∧ e.st = 1 then 0 else 5
def TabM.put (t : TabM) (ix : Int) (f : EntM → EntM) : TabM := t.modify ix.toNat f

/-- An entry's five cells, in the table of the code, and in the document's. -/
def entC (i : Nat) (e : EntM) : List Value := [.int .i64 i, .int .i64 e.gen, .int .i64 e.st, .int .i64 e.kind, .int .i64 e.num]
def entR (_ : Nat) (e : EntM) : List Value := [.bool (e.st == 1), .bool (e.st == 2), .int .i64 e.gen, .int .i64 e.kind, .int .i64 e.num]

/-- The cells xs hold the entries, one behind the other. -/
def Lay (f : Nat → EntM → List Value) (xs : List Value) (t : TabM) : Prop :=
  xs.length = t.length * 5 ∧ ∀ i e, t[i]? = some e → ∀ j v, (f i e)[j]? = some v → xs[i * 5 + j]? = some v

theorem Lay.put {f : Nat → EntM → List Value} {xs xs' : List Value} {t : TabM} {i : Nat} {e' : EntM} (h : Lay f xs t) (hf : ∀ i e, (f i e).length = 5) (hl : xs'.length = xs.length)
    (ho : ∀ p, p < i * 5 ∨ i * 5 + 5 ≤ p → xs'[p]? = xs[p]?) (hn : ∀ j v, (f i e')[j]? = some v → xs'[i * 5 + j]? = some v) : Lay f xs' (t.set i e') := by
  refine ⟨by rw [hl, h.1, List.length_set], fun k e hk j v hv => ?_⟩
  have hj : j < 5 := by rw [← hf k e]; exact (List.getElem?_eq_some_iff.1 hv).1
  rw [List.getElem?_set] at hk
  split at hk
  · rename_i hik
    subst hik
    split at hk
    · simp at hk
      subst hk
      exact hn j v hv
    · cases hk
  · rename_i hik
    rw [ho _ (by omega)]
    exact h.2 k e hk j v hv

/-- A cell of an owned slice is written. -/
theorem Own.set {w : World} {base e size n g off cap : Nat} {xs : List Value} (h : Own w base e size (.slice (some ⟨g, off, none⟩) n cap) n xs) (j : Nat) (u : Value) (hj : j < xs.length) :
    Own (w.setCell ⟨g, off + j, none⟩ u) base e size (.slice (some ⟨g, off, none⟩) n cap) n (xs.set j u) := by
  refine ⟨by rw [List.length_set]; exact h.1, ?_⟩
  rcases h.2 with ⟨hv, _⟩ | ⟨g', off', cap', pre, rest, hv, hb, hg, hp, hr, hn, hc⟩
  · cases hv
  · cases hv
    refine Or.inr ⟨g, off, cap, pre, rest, rfl, hb, ?_, hp, hr, hn, hc⟩
    have := hg.set (off + j) u
    refine this.eq ?_
    rw [List.set_append_right _ _ (by omega), hp, Nat.add_sub_cancel_left, List.set_append_left _ _ hj]

theorem Own.frozen {w : World} {base e size n g off cap : Nat} {xs : List Value} (h : Own w base e size (.slice (some ⟨g, off, none⟩) n cap) n xs) (j : Nat) : w.frozen? ⟨g, j, none⟩ = false := by
  rcases h.2 with ⟨hv, _⟩ | ⟨g', off', cap', pre, rest, hv, hb, hg, hp, hr, hn, hc⟩
  · cases hv
  · cases hv; exact hg.frozen j

/-- What holds of every entry. -/
def EntM.fine (e : EntM) : Prop := 1 ≤ e.gen ∧ e.gen ≤ 1048577 ∧ (e.st = 0 ∨ e.st = 1 ∨ e.st = 2) ∧ (e.gen ≤ 1048576 ∨ e.st = 2)

/-- The table t lies at block b, its entries are the slice v. -/
structure TabAt (w : World) (base b : Nat) (v : Value) (t : TabM) : Prop where
  blk : Blk w b 54 [v, .int .i64 t.used, .bool true]
  ex : ∃ xs, Own w base 58 5 v t.length xs ∧ Lay entC xs t
  ap : ∀ q, v.ownBlock = some q → q ≠ b
  base : base ≤ b
  small : t.length ≤ 4096
  fine : ∀ e ∈ t, e.fine

section
variable {w w1 : World} {base b : Nat} {v : Value} {t : TabM}
theorem TabAt.upd {F : List Nat} (h : TabAt w base b v t) (hu : Upd F w w1) (hb : b ∉ F) (hv : ∀ q, v.ownBlock = some q → q ∉ F) : TabAt w1 base b v t := by
  obtain ⟨xs, h1, h2⟩ := h.ex
  exact { h with blk := h.blk.upd hu hb, ex := ⟨xs, h1.upd hu hv, h2⟩ }
theorem TabAt.lt (h : TabAt w base b v t) : b < w.heap.size := h.blk.lt
theorem TabAt.vlt (h : TabAt w base b v t) : ∀ q, v.ownBlock = some q → base ≤ q ∧ q < w.heap.size := by obtain ⟨xs, h1, _⟩ := h.ex; exact h1.lt
theorem TabAt.shape (h : TabAt w base b v t) : ∃ ao cap, v = .slice ao t.length cap := by obtain ⟨xs, h1, _⟩ := h.ex; exact h1.shape
/-- Entry i: where it lies, and its cells. -/
theorem TabAt.cells (h : TabAt w base b v t) {i : Nat} {e : EntM} (hi : t[i]? = some e) :
    ∃ g off cap, v = .slice (some ⟨g, off, none⟩) t.length cap ∧ w.cell? ⟨g, off + i * 5, none⟩ = some (.int .i64 i) ∧ w.cell? ⟨g, off + i * 5 + 1, none⟩ = some (.int .i64 e.gen) ∧ w.cell? ⟨g, off + i * 5 + 2, none⟩ = some (.int .i64 e.st) ∧
      w.cell? ⟨g, off + i * 5 + 3, none⟩ = some (.int .i64 e.kind) ∧ w.cell? ⟨g, off + i * 5 + 4, none⟩ = some (.int .i64 e.num) ∧ ∀ j, w.frozen? ⟨g, j, none⟩ = false := by
  obtain ⟨xs, h1, h2⟩ := h.ex
  have hil := (List.getElem?_eq_some_iff.1 hi).1
  obtain ⟨ao, cap, rfl⟩ := h1.shape
  rcases h1.2 with ⟨hv, h0⟩ | ⟨g, off, cap', pre, rest, hv, hb, hg, hp, hr, hn, hc⟩
  · omega
  · cases hv
    have key : ∀ j u, (entC i e)[j]? = some u → w.cell? ⟨g, off + i * 5 + j, none⟩ = some u := fun j u hj => by
      have := h1.cell rfl (h2.2 i e hi j u hj)
      rw [← Nat.add_assoc] at this
      exact this
    exact ⟨g, off, cap, rfl, key 0 _ rfl, key 1 _ rfl, key 2 _ rfl, key 3 _ rfl, key 4 _ rfl, fun j => h1.frozen j⟩
end

/-- p points to no table that a call made. -/
def NoTab (w : World) (p : Value) : Prop := p = .pointer none ∨ ∃ b, p = .pointer (some ⟨b, 0, none⟩) ∧ w.cell? ⟨b, 2, none⟩ = some (.bool false)

end Go.Proofs.Ytfejlokinopjbaa
