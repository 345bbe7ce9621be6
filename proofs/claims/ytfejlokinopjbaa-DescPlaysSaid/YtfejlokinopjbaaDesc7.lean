/- The chapter's example, and the law DescNone. -/
import Derived.Test.YtfejlokinopjbaaDesc6
namespace Go.Proofs.Ytfejlokinopjbaa
open Go Go.RowKit
set_option linter.unusedVariables false

def Fine (w : World) (v : Value) (e : Ending) (w' : World) : Prop := e = .returned v ∧ Upd [] w w'

theorem mem_ownD {v : Value} {q : Nat} (h : q ∈ v.ownBlock.toList) : v.ownBlock = some q := by
  cases hv : v.ownBlock with
  | none => rw [hv] at h; cases h
  | some x => rw [hv] at h; simp at h; rw [h]

theorem TabPost.below {w w0 w' : World} {base b : Nat} {v : Value} {t t' : TabM} (h : TabAt w base b v t) (hp : TabPost w base b v t' w') (hU : Upd [] w0 w) (hb : w0.heap.size ≤ base) : Upd [] w0 w' :=
  hU.trans (fun q hq => Or.inr (by
    rcases List.mem_cons.1 hq with h' | h'
    · subst h'; have := h.base; omega
    · have hv : v.ownBlock = some q := by
        cases ho : v.ownBlock with
        | none => rw [ho] at h'; cases h'
        | some y => rw [ho] at h'; simp at h'; rw [h']
      have := (h.vlt q hv).1; omega)) hp.2

set_option maxHeartbeats 1000000 in
set_option maxRecDepth 100000 in
theorem desc_works (w : World) : Calls Try.prog 7 #[] w (Fine w (.bool true)) := by
  go_enter Try.func7, Try.ntmps7
  go_wp2_with fail
  refine (tab_new 1 _ (by decide)).mono ?_
  rintro e w1 ⟨b, v, rfl, h1, hU1⟩
  have t1 : TabM.new 1 = [⟨1, 0, 0, 0⟩] := rfl
  rw [t1] at h1
  go_wp2_with fail
  refine (tab_open 7 8 h1).mono ?_
  rintro e w2 ⟨rfl, hp⟩
  have hU2 := hp.below h1 hU1 (Nat.le_refl _)
  have h2 : TabAt w2 w.heap.size b v [⟨1, 1, 7, 8⟩] := hp.1
  have e1 : TabM.openH [⟨1, 0, 0, 0⟩] = (0, 1) := rfl
  have e2 : TabM.openE [⟨1, 0, 0, 0⟩] = 0 := rfl
  rw [e1, e2]
  clear hp h1 hU1 e1 e2
  go_wp2_with fail
  have k2 : Upd [] w2 (w2.alloc (.cells #[.int .i64 0, .int .i64 1] 30)) := (Upd.refl _ _).alloc _
  have B1 := blk_new' w2 30 #[.int .i64 0, .int .i64 1]
  have h2' := h2.upd k2 (by simp) (by simp)
  have n1 : ∀ q, q ∈ b :: v.ownBlock.toList → q < w2.heap.size := fun q hq => by
    rcases List.mem_cons.1 hq with h' | h'
    · subst h'; exact h2.lt
    · exact (h2.vlt q (mem_ownD h')).2
  have hU2' := hU2.trans_same k2
  generalize w2.heap.size = H1 at *
  generalize w2.alloc (.cells #[.int .i64 0, .int .i64 1] 30) = w3 at *
  refine (tab_open 1 1 h2').mono ?_
  rintro e w4 ⟨rfl, hp⟩
  have hU4 := hp.below h2' hU2' (Nat.le_refl _)
  have h4 : TabAt w4 w.heap.size b v [⟨1, 1, 7, 8⟩] := hp.1
  have B1 := B1.upd hp.2 (fun hq => Nat.lt_irrefl _ (n1 _ hq))
  have e1 : TabM.openH [⟨1, 1, 7, 8⟩] = (0, 0) := rfl
  have e2 : TabM.openE [⟨1, 1, 7, 8⟩] = 4 := rfl
  rw [e1, e2]
  clear hp h2 h2' hU2 hU2' k2 e1 e2
  have x0 := B1.cell (i := 0) rfl
  have x1 := B1.cell (i := 1) rfl
  have hH1 := B1.lt
  have k4 : Upd [] w4 (w4.alloc (.cells #[.int .i64 0, .int .i64 0] 30)) := (Upd.refl _ _).alloc _
  have y0 : (w4.alloc (.cells #[.int .i64 0, .int .i64 0] 30)).cell? ⟨H1, 0, none⟩ = some (.int .i64 0) := by rw [k4.cell hH1 (by simp)]; exact x0
  have y1 : (w4.alloc (.cells #[.int .i64 0, .int .i64 0] 30)).cell? ⟨H1, 1, none⟩ = some (.int .i64 1) := by rw [k4.cell hH1 (by simp)]; exact x1
  go_wp2_with fail
  have h5 := h4.upd k4 (by simp) (by simp)
  have hU5 := hU4.trans_same k4
  have B1 := B1.upd k4 (by simp)
  clear x0 x1 y0 y1 hH1 k4 h4 hU4
  generalize w4.alloc (.cells #[.int .i64 0, .int .i64 0] 30) = w5 at *
  refine (tab_close 0 1 h5).mono ?_
  rintro e w6 ⟨rfl, hp⟩
  have hU6 := hp.below h5 hU5 (Nat.le_refl _)
  have h6 : TabAt w6 w.heap.size b v [⟨2, 0, 0, 0⟩] := hp.1
  have B1 := B1.upd hp.2 (fun hq => Nat.lt_irrefl _ (n1 _ hq))
  have e1 : TabM.look [⟨1, 1, 7, 8⟩] 0 1 = 0 := by decide
  rw [e1]
  clear hp h5 hU5 e1
  have x0 := B1.cell (i := 0) rfl
  have x1 := B1.cell (i := 1) rfl
  go_wp2_with fail
  have hL := tab_lookup 0 1 h6
  have e1 : TabM.look [⟨2, 0, 0, 0⟩] 0 1 = 30 := by decide
  have e2 : TabM.got [⟨2, 0, 0, 0⟩] 0 1 = (0, 0) := by decide
  rw [e1, e2] at hL
  clear e1 e2
  refine hL.mono ?_
  rintro e w7 ⟨rfl, k7⟩
  have h7 := h6.upd k7 (by simp) (by simp)
  have hU7 := hU6.trans_same k7
  have B1 := B1.upd k7 (by simp)
  clear h6 hU6 k7 x0 x1 hL
  go_wp2_with fail
  refine (tab_open 9 9 h7).mono ?_
  rintro e w8 ⟨rfl, hp⟩
  have hU8 := hp.below h7 hU7 (Nat.le_refl _)
  have h8 : TabAt w8 w.heap.size b v [⟨2, 1, 9, 9⟩] := hp.1
  have B1 := B1.upd hp.2 (fun hq => Nat.lt_irrefl _ (n1 _ hq))
  have e1 : TabM.openH [⟨2, 0, 0, 0⟩] = (0, 2) := rfl
  have e2 : TabM.openE [⟨2, 0, 0, 0⟩] = 0 := rfl
  rw [e1, e2]
  clear hp h7 hU7 e1 e2 n1
  have k8 : Upd [] w8 (w8.alloc (.cells #[.int .i64 0, .int .i64 2] 30)) := (Upd.refl _ _).alloc _
  have B2 := blk_new' w8 30 #[.int .i64 0, .int .i64 2]
  have z0 := B2.cell (i := 0) rfl
  have z1 := B2.cell (i := 1) rfl
  go_wp2_with fail
  have h9 := h8.upd k8 (by simp) (by simp)
  have hU9 := hU8.trans_same k8
  have B1 := B1.upd k8 (by simp)
  clear z0 z1 k8 h8 hU8
  generalize w8.heap.size = H2 at *
  generalize w8.alloc (.cells #[.int .i64 0, .int .i64 2] 30) = w9 at *
  have hL := tab_lookup 0 2 h9
  have e1 : TabM.look [⟨2, 1, 9, 9⟩] 0 2 = 0 := by decide
  have e2 : TabM.got [⟨2, 1, 9, 9⟩] 0 2 = (9, 9) := by decide
  rw [e1, e2] at hL
  clear e1 e2
  refine hL.mono ?_
  rintro e w10 ⟨rfl, k10⟩
  have hU10 := hU9.trans_same k10
  have B1 := B1.upd k10 (by simp)
  have B2 := B2.upd k10 (by simp)
  have x0 := B1.cell (i := 0) rfl
  have x1 := B1.cell (i := 1) rfl
  have z0 := B2.cell (i := 0) rfl
  have z1 := B2.cell (i := 1) rfl
  clear h9 hU9 k10 hL
  go_wp2_with fail
  go_ret
  exact ⟨rfl, hU10⟩

end Go.Proofs.Ytfejlokinopjbaa
