/- The walks of the table's calls Lookup, Set, Close. -/
import Derived.Test.YtfejlokinopjbaaDesc2
namespace Go.Proofs.Ytfejlokinopjbaa
open Go Go.RowKit
set_option linter.unusedVariables false

/-- What an entry has, for a handle that is right. -/
def TabM.got (t : TabM) (ix gen : Int) : Int × Int :=
  if t.look ix gen = 0 then match t[ix.toNat]? with
    | some x => (x.kind, x.num)
    | none => (0, 0)
  else (0, 0)
/-- An entry turned, for a handle that is right. -/
def TabM.turn (t : TabM) (ix gen : Int) (f : EntM → EntM) : TabM :=
  if t.look ix gen = 0 then match t[ix.toNat]? with
    | some x => t.set ix.toNat (f x)
    | none => t
  else t

theorem look_lt (t : TabM) (ix gen : Int) : t.look ix gen = 0 ∨ t.look ix gen = 5 ∨ t.look ix gen = 30 := by
  unfold TabM.look
  split
  · simp
  · split
    · simp
    · split
      · simp
      · split <;> simp

set_option maxHeartbeats 1000000 in
set_option maxRecDepth 100000 in
theorem tab_lookup {w : World} {base b : Nat} {v : Value} {t : TabM} (ix gen : Int) (h : TabAt w base b v t) :
    Calls Try.prog 13 #[.pointer (some ⟨b, 0, none⟩), .agg #[.int .i64 ix, .int .i64 gen]] w fun e w' =>
      e = .returned (.tuple #[.int .i64 (t.got ix gen).1, .int .i64 (t.got ix gen).2, .int .i64 (t.look ix gen : Nat)]) ∧ Upd [] w w' := by
  have hU : Upd [] w (w.alloc (.cells #[.int .i64 ix, .int .i64 gen] 30)) := (Upd.refl _ _).alloc _
  have h1 := h.upd hU (by simp) (by simp)
  have hf := tab_find ix gen h1
  go_enter Try.func13, Try.ntmps13
  go_wp2_with fail
  refine hf.mono ?_
  rintro e w2 ⟨hU2, ⟨hl, rfl⟩ | ⟨i, x, g, off, cap, hl, rfl, hx, hst, rfl, rfl, rfl⟩⟩
  · have hgot : t.got ix gen = (0, 0) := by unfold TabM.got; rw [if_neg hl]
    have hl0 : ¬ ((t.look ix gen : Nat) : Int) = 0 := by omega
    go_wp2_with fail
    (try simp only [Exit.inBlock, Exit.then])
    refine bodyPost_ret (v := .tuple #[.int .i64 0, .int .i64 0, .int .i64 (t.look ix gen : Nat)]) (by simp [results, Try.results13, go_sem]) rfl ?_
    exact ⟨by rw [hgot], hU.trans_same hU2⟩
  · have hgot : t.got i x.gen = (x.kind, x.num) := by unfold TabM.got; rw [if_pos hl, Int.toNat_natCast, hx]
    have h2 := h1.upd hU2 (by simp) (by simp)
    obtain ⟨g', off', cap', hv, e0, e1, e2, e3, e4, hfz⟩ := h2.cells hx
    cases hv
    go_wp2_with fail
    go_quiet (fail)
    go_wp2_with fail
    (try simp only [Exit.inBlock, Exit.then])
    refine bodyPost_ret (v := .tuple #[.int .i64 x.kind, .int .i64 x.num, .int .i64 0]) (by simp [results, Try.results13, go_sem]) rfl ?_
    exact ⟨by rw [hgot, hl]; rfl, (hU.trans_same hU2).drewN _⟩

/-! ### Writing -/

/-- The table's two blocks, its cells as they are. -/
structure Raw (w : World) (base b g off cap n : Nat) (xs : List Value) (u : Int) : Prop where
  blk : Blk w b 54 [.slice (some ⟨g, off, none⟩) n cap, .int .i64 u, .bool true]
  own : Own w base 58 5 (.slice (some ⟨g, off, none⟩) n cap) n xs
  ap : g ≠ b

section
variable {w w1 : World} {base b g off cap n : Nat} {xs : List Value} {u : Int}
theorem Raw.upd {F : List Nat} (h : Raw w base b g off cap n xs u) (hu : Upd F w w1) (hb : b ∉ F) (hg : g ∉ F) : Raw w1 base b g off cap n xs u :=
  ⟨h.blk.upd hu hb, h.own.upd hu (fun q hq => by simp [Value.ownBlock] at hq; subst hq; exact hg), h.ap⟩
theorem Raw.cnt (h : Raw w base b g off cap n xs u) (u' : Int) : Raw (w.setCell ⟨b, 1, none⟩ (.int .i64 u')) base b g off cap n xs u' :=
  ⟨(h.blk.set 1 _).eq rfl, h.own.upd ((Upd.refl [b] _).setCell (a := ⟨b, 1, none⟩) (Or.inl (by simp)) _) (fun q hq => by simp [Value.ownBlock] at hq; subst hq; simp; exact h.ap), h.ap⟩
theorem Raw.ent (h : Raw w base b g off cap n xs u) {i j : Nat} (hj : i * 5 + j < xs.length) (val : Value) : Raw (w.setCell ⟨g, off + i * 5 + j, none⟩ val) base b g off cap n (xs.set (i * 5 + j) val) u := by
  refine ⟨h.blk.set_other (by have := h.ap; exact fun e => this e.symm) _, ?_, h.ap⟩
  rw [Nat.add_assoc]
  exact h.own.set _ _ hj
theorem Raw.frozen (h : Raw w base b g off cap n xs u) (j : Nat) : w.frozen? ⟨g, j, none⟩ = false := h.own.frozen j
theorem Raw.cell (h : Raw w base b g off cap n xs u) {i j : Nat} {val : Value} (hj : xs[i * 5 + j]? = some val) : w.cell? ⟨g, off + i * 5 + j, none⟩ = some val := by
  rw [Nat.add_assoc]
  exact h.own.cell rfl hj
end

theorem TabAt.raw {w : World} {base b g off cap : Nat} {t : TabM} (h : TabAt w base b (.slice (some ⟨g, off, none⟩) t.length cap) t) : ∃ xs, Raw w base b g off cap t.length xs t.used ∧ Lay entC xs t := by
  obtain ⟨xs, h1, h2⟩ := h.ex
  exact ⟨xs, ⟨h.blk, h1, h.ap g rfl⟩, h2⟩

theorem Raw.tab {w : World} {base b g off cap : Nat} {t : TabM} {n : Nat} {xs : List Value} {u : Int} (h : Raw w base b g off cap n xs u) (hl : Lay entC xs t) (hn : n = t.length) (hu : u = t.used) (hb : base ≤ b) (hs : t.length ≤ 4096) (hf : ∀ e ∈ t, e.fine) :
    TabAt w base b (.slice (some ⟨g, off, none⟩) n cap) t := by
  subst hn hu
  exact ⟨h.blk, ⟨xs, h.own, hl⟩, fun q hq => by simp [Value.ownBlock] at hq; subst hq; exact h.ap, hb, hs, hf⟩

/-- Cells of one entry. -/
theorem Lay.at {xs : List Value} {t : TabM} {i : Nat} {x : EntM} (h : Lay entC xs t) (hi : t[i]? = some x) :
    i * 5 + 4 < xs.length ∧ xs[i * 5]? = some (.int .i64 i) ∧ xs[i * 5 + 1]? = some (.int .i64 x.gen) ∧ xs[i * 5 + 2]? = some (.int .i64 x.st) ∧ xs[i * 5 + 3]? = some (.int .i64 x.kind) ∧ xs[i * 5 + 4]? = some (.int .i64 x.num) := by
  have hil := (List.getElem?_eq_some_iff.1 hi).1
  exact ⟨by rw [h.1]; omega, h.2 i x hi 0 _ rfl, h.2 i x hi 1 _ rfl, h.2 i x hi 2 _ rfl, h.2 i x hi 3 _ rfl, h.2 i x hi 4 _ rfl⟩

theorem Lay.of5 {xs xs' : List Value} {t : TabM} {i : Nat} {x' : EntM} (h : Lay entC xs t) (hl : xs'.length = xs.length) (ho : ∀ p, p < i * 5 ∨ i * 5 + 5 ≤ p → xs'[p]? = xs[p]?)
    (h0 : xs'[i * 5]? = some (.int .i64 i)) (h1 : xs'[i * 5 + 1]? = some (.int .i64 x'.gen)) (h2 : xs'[i * 5 + 2]? = some (.int .i64 x'.st)) (h3 : xs'[i * 5 + 3]? = some (.int .i64 x'.kind)) (h4 : xs'[i * 5 + 4]? = some (.int .i64 x'.num)) : Lay entC xs' (t.set i x') := by
  refine h.put (fun _ _ => rfl) hl ho (fun j v hv => ?_)
  have hj : j < 5 := (List.getElem?_eq_some_iff.1 hv).1
  rcases j with _ | _ | _ | _ | _ | j <;> simp [entC] at hv
  · subst hv; exact h0
  · subst hv; exact h1
  · subst hv; exact h2
  · subst hv; exact h3
  · subst hv; exact h4

theorem used_set {t : TabM} {i : Nat} {x x' : EntM} (hi : t[i]? = some x) : (TabM.used (t.set i x') : Int) = TabM.used t - (if x.st = 1 then 1 else 0) + (if x'.st = 1 then 1 else 0) := by
  unfold TabM.used
  induction t generalizing i with
  | nil => simp at hi
  | cons a r ih =>
    cases i with
    | zero =>
      simp at hi
      subst hi
      simp only [List.set_cons_zero, List.countP_cons]
      by_cases h1 : a.st = 1 <;> by_cases h2 : x'.st = 1 <;> simp [h1, h2] <;> omega
    | succ i =>
      simp at hi
      have := ih hi
      simp only [List.set_cons_succ, List.countP_cons]
      push_cast
      omega

end Go.Proofs.Ytfejlokinopjbaa
