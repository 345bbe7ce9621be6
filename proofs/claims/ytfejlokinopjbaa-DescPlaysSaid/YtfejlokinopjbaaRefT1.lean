/- The document's table (sallyportref03): how it lies in memory; the walks of look, Lookup, Set. It answers by the same plain model as the table. -/
import Derived.Test.YtfejlokinopjbaaDesc13
namespace Go.Proofs.Ytfejlokinopjbaa
open Go Go.RowKit
set_option linter.unusedVariables false

/-- The document's table t lies at block c, its entries are the slice v. -/
structure RTab (w : World) (base c : Nat) (v : Value) (t : TabM) : Prop where
  blk : Blk w c 64 [v]
  ex : ∃ xs, Own w base 66 5 v t.length xs ∧ Lay entR xs t
  ap : ∀ q, v.ownBlock = some q → q ≠ c
  base : base ≤ c
  small : t.length ≤ 4096
  fine : ∀ e ∈ t, e.fine

theorem Lay.setR {xs : List Value} {t : TabM} {i j : Nat} {e e' : EntM} {u : Value} (h : Lay entR xs t) (hi : t[i]? = some e) (hj : j < 5) (hs : entR i e' = (entR i e).set j u) : Lay entR (xs.set (i * 5 + j) u) (t.set i e') := by
  have hl := h.1
  have hil := (List.getElem?_eq_some_iff.1 hi).1
  refine ⟨by rw [List.length_set, List.length_set]; exact hl, fun k x hk m v hv => ?_⟩
  have hm : m < 5 := (List.getElem?_eq_some_iff.1 hv).1
  by_cases hik : i = k
  · subst hik
    rw [List.getElem?_set_self hil] at hk
    cases hk
    rw [hs] at hv
    by_cases hjm : j = m
    · subst hjm
      rw [List.getElem?_set_self (by exact hj)] at hv
      rw [List.getElem?_set_self (by omega)]
      exact hv
    · rw [List.getElem?_set_ne hjm] at hv
      rw [List.getElem?_set_ne (by omega)]
      exact h.2 i e hi m v hv
  · rw [List.getElem?_set_ne hik] at hk
    rw [List.getElem?_set_ne (by omega)]
    exact h.2 k x hk m v hv

def RPost (w : World) (base c : Nat) (v : Value) (t' : TabM) (w' : World) : Prop := RTab w' base c v t' ∧ Upd (c :: v.ownBlock.toList) w w'

section
variable {w w1 : World} {base c : Nat} {v : Value} {t : TabM}
theorem RTab.upd {F : List Nat} (h : RTab w base c v t) (hu : Upd F w w1) (hb : c ∉ F) (hv : ∀ q, v.ownBlock = some q → q ∉ F) : RTab w1 base c v t := by
  obtain ⟨xs, h1, h2⟩ := h.ex
  exact { h with blk := h.blk.upd hu hb, ex := ⟨xs, h1.upd hu hv, h2⟩ }
theorem RTab.lt (h : RTab w base c v t) : c < w.heap.size := h.blk.lt
theorem RTab.vlt (h : RTab w base c v t) : ∀ q, v.ownBlock = some q → base ≤ q ∧ q < w.heap.size := by obtain ⟨xs, h1, _⟩ := h.ex; exact h1.lt
theorem RTab.shape (h : RTab w base c v t) : ∃ ao cap, v = .slice ao t.length cap := by obtain ⟨xs, h1, _⟩ := h.ex; exact h1.shape
theorem RTab.cells (h : RTab w base c v t) {i : Nat} {e : EntM} (hi : t[i]? = some e) :
    ∃ g off cap, v = .slice (some ⟨g, off, none⟩) t.length cap ∧ w.cell? ⟨g, off + i * 5, none⟩ = some (.bool (e.st == 1)) ∧ w.cell? ⟨g, off + i * 5 + 1, none⟩ = some (.bool (e.st == 2)) ∧ w.cell? ⟨g, off + i * 5 + 2, none⟩ = some (.int .i64 e.gen) ∧
      w.cell? ⟨g, off + i * 5 + 3, none⟩ = some (.int .i64 e.kind) ∧ w.cell? ⟨g, off + i * 5 + 4, none⟩ = some (.int .i64 e.num) ∧ ∀ j, w.frozen? ⟨g, j, none⟩ = false := by
  obtain ⟨xs, h1, h2⟩ := h.ex
  have hil := (List.getElem?_eq_some_iff.1 hi).1
  obtain ⟨ao, cap, rfl⟩ := h1.shape
  rcases h1.2 with ⟨hv, h0⟩ | ⟨g, off, cap', pre, rest, hv, hb, hg, hp, hr, hn, hc⟩
  · omega
  · cases hv
    have key : ∀ j u, (entR i e)[j]? = some u → w.cell? ⟨g, off + i * 5 + j, none⟩ = some u := fun j u hj => by
      have := h1.cell rfl (h2.2 i e hi j u hj)
      rw [← Nat.add_assoc] at this
      exact this
    exact ⟨g, off, cap, rfl, key 0 _ rfl, key 1 _ rfl, key 2 _ rfl, key 3 _ rfl, key 4 _ rfl, fun j => h1.frozen j⟩
/-- One cell of an entry is written. -/
theorem RTab.write {g off cap n i j : Nat} {e e' : EntM} {u : Value} (h : RTab w base c (.slice (some ⟨g, off, none⟩) n cap) t) (hi : t[i]? = some e) (hj : j < 5) (hs : entR i e' = (entR i e).set j u) (hf : e'.fine) :
    RPost w base c (.slice (some ⟨g, off, none⟩) n cap) (t.set i e') (w.setCell ⟨g, off + i * 5 + j, none⟩ u) := by
  obtain ⟨xs, h1, h2⟩ := h.ex
  have hil := (List.getElem?_eq_some_iff.1 hi).1
  have hn : n = t.length := by obtain ⟨ao, cap', hv⟩ := h1.shape; cases hv; rfl
  subst hn
  have hgc : g ≠ c := h.ap g rfl
  have hx := h1.set (i * 5 + j) u (by have := h2.1; omega)
  rw [← Nat.add_assoc] at hx
  refine ⟨⟨h.blk.set_other (fun e => hgc e.symm) _, ⟨xs.set (i * 5 + j) u, ?_, h2.setR hi hj hs⟩, h.ap, h.base, by rw [List.length_set]; exact h.small, fun x hx => ?_⟩, (Upd.refl _ _).setCell (a := ⟨g, off + i * 5 + j, none⟩) (Or.inl (by simp [Value.ownBlock])) _⟩
  · rw [List.length_set]; exact hx
  · rcases List.mem_or_eq_of_mem_set hx with h' | h'
    · exact h.fine x h'
    · subst h'; exact hf
theorem RPost.below {w0 w' : World} {t' : TabM} (h : RTab w base c v t) (hp : RPost w base c v t' w') (hU : Upd [] w0 w) (hb : w0.heap.size ≤ base) : Upd [] w0 w' :=
  hU.trans (fun q hq => Or.inr (by
    rcases List.mem_cons.1 hq with h' | h'
    · subst h'; have := h.base; omega
    · have := (h.vlt q (mem_ownD h')).1; omega)) hp.2
theorem RPost.trans {w' w'' : World} {t' t'' : TabM} (h : RPost w base c v t' w') (h' : RPost w' base c v t'' w'') : RPost w base c v t'' w'' := ⟨h'.1, h.2.trans_same h'.2⟩
end

/-- What look finds right: the entry. -/
theorem look_ok {t : TabM} {ix gen : Int} (h : t.look ix gen = 0) : ∃ (i : Nat) (x : EntM), ix = i ∧ t[i]? = some x ∧ x.st = 1 ∧ gen = x.gen := by
  unfold TabM.look at h
  by_cases hneg : ix < 0
  · rw [if_pos hneg] at h; cases h
  · rw [if_neg hneg] at h
    obtain ⟨i, rfl⟩ := Int.eq_ofNat_of_zero_le (show 0 ≤ ix by omega)
    rw [Int.toNat_natCast] at h
    cases hx : t[i]? with
    | none => rw [hx] at h; cases h
    | some x =>
      rw [hx] at h
      simp only at h
      split at h
      · cases h
      · split at h
        · rename_i hh
          exact ⟨i, x, rfl, hx, hh.2, hh.1⟩
        · cases h

end Go.Proofs.Ytfejlokinopjbaa
