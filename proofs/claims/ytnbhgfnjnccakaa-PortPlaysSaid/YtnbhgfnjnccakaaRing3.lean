/- The walks of the ring's calls Drop, Peek, Take, Clear, New, Clone. -/
import Derived.Test.YtnbhgfnjnccakaaRing2
namespace Go.Proofs.Ytnbhgfnjnccakaa
open Go Go.RowKit
set_option linter.unusedVariables false

theorem Try.info5 : (Try.prog.info? 5).map (fun i => (i.zero, i.size, i.bytes)) = some (some (.int .u8 0), 1, 1) := by kernel_rfl

/-! ### Drop -/

def DropPost (b i o g size cap f' n k : Nat) (w : World) (e : Ending) (w' : World) : Prop :=
  e = .returned (.int .i64 (k : Nat)) ∧ Upd [b] w w' ∧ Blk w' b 135 (ringCells i ((o + k) % 4294967296) g size cap f' (n - k))

set_option maxHeartbeats 800000 in
set_option maxRecDepth 100000 in
theorem drop_some (b i o g size cap first n k : Nat) (nn : Int) (w : World) (hlen : Calls Try.prog 62 #[.pointer (some ⟨b, 0, none⟩)] w fun e w' => e = .returned (.int .i64 (n : Nat)) ∧ w = w')
   (hb : Blk w b 135 (ringCells i o g size cap first n)) (hn : n ≤ size) (hs : size ≤ 65536) (hf : first < size) (hk0 : 0 < k) (hk1 : k ≤ n) (ho : o < 4294967296)
   (hmm : (n = k ∧ (n : Int) < nn) ∨ nn = (k : Int)) :
    Calls Try.prog 88 #[.pointer (some ⟨b, 0, none⟩), .int .i64 nn] w (DropPost b i o g size cap ((first + k) % size) n k w) := by
  have h2 := hb.cell (i := 2) rfl
  have h3 := hb.cell (i := 3) rfl
  have hk00 : ((k : Int) == 0) = false := by rw [beq_eq_false_iff_ne]; omega
  have hk := Nat.le_trans hk1 hn
  rcases hmm with ⟨hnk, hlt⟩ | rfl
  case' inl => obtain rfl : k = n := hnk.symm
  case' inr => have hkn : ¬ (n : Int) < (k : Int) := by omega
  all_goals
    go_enter Try.func88, Try.ntmps88
    go_wp2_with (go_at_call 62; refine hlen.mono ?_; rintro e w' ⟨rfl, rfl⟩)
    have e1 : IntKind.i64.wrap ((first : Int) + (k : Int)) = ((first + k : Nat) : Int) := by
      rw [IntWalk.i64_in _ (by omega)]; omega
    have e2 : Int.tmod ((first : Int) + (k : Int)) (size : Int) = (((first + k) % size : Nat) : Int) := rfl
    have e3 : ¬ size = 0 := by omega
    generalize (first + k) % size = f' at *
    refine wp_region_tail 15 (by kernel_rfl) (by kernel_rfl) ?_
    simp only [List.take_succ_cons, List.take_zero, List.drop_succ_cons, List.drop_zero]
    repeat still_step
    refine wpStill_nil ?_
    clear e1 e2 e3
    have hb0 : Blk w.drew b 135 _ := hb
    have hu0 : Upd [b] w w.drew := (Upd.refl _ _).drew
    generalize w.drew = w0 at *
    have h0 := hb0.cell (i := 1) rfl
    have h3 := hb0.cell (i := 3) rfl
    have h4 := hb0.cell (i := 4) rfl
    have f0 := hb0.frozen 1
    have f3 := hb0.frozen 3
    have f4 := hb0.frozen 4
    go_wp2
    go_ret
    refine ⟨rfl, ((hu0.setCell (Or.inl (by simp)) _).setCell (Or.inl (by simp)) _).setCell (Or.inl (by simp)) _, (((hb0.set 3 _).set 4 _).set 1 _).eq ?_⟩
    simp [ringCells]
    try omega

theorem drop_zero {w : World} {b g : Nat} {r : RingM} (n : Int) (h : RingAt w b g r) (hz : r.xs.length = 0 ∨ n ≤ 0) :
    Calls Try.prog 88 #[.pointer (some ⟨b, 0, none⟩), .int .i64 n] w fun e w' => e = .returned (.int .i64 0) ∧ w = w' := by
  have hl := ring_len h
  generalize r.xs.length = q at *
  rcases hz with rfl | hz
  all_goals
    go_enter Try.func88, Try.ntmps88
    go_wp2_with (go_at_call 62; refine hl.mono ?_; rintro e w' ⟨rfl, rfl⟩)
    all_goals (go_ret; exact ⟨rfl, rfl⟩)

theorem ring_drop {w : World} {b g : Nat} {r : RingM} (n : Int) (h : RingAt w b g r) :
    Calls Try.prog 88 #[.pointer (some ⟨b, 0, none⟩), .int .i64 n] w fun e w' => e = .returned (.int .i64 (r.cnt n : Nat)) ∧ RingAt w' b g (r.drop n) ∧ Upd [b] w w' := by
  by_cases hk : r.cnt n = 0
  · have hz : r.xs.length = 0 ∨ n ≤ 0 := by unfold RingM.cnt at hk; omega
    refine (drop_zero n h hz).mono ?_
    rintro e w' ⟨rfl, rfl⟩
    rw [hk]
    refine ⟨rfl, ?_, Upd.refl _ _⟩
    have : r.drop n = r := by unfold RingM.drop; rw [hk]; cases r; simp; exact h.io.2
    rw [this]; exact h
  · have hl := ring_len h
    obtain ⟨cap, first, bs, rest, h⟩ := h
    have hc := r.cnt_le n
    have hfit := h.fit
    have hfirst : first < r.size := by have := h.hfirst; omega
    have hcase : (r.xs.length = r.cnt n ∧ (r.xs.length : Int) < n) ∨ n = (r.cnt n : Int) := by unfold RingM.cnt at *; omega
    refine (drop_some b r.i r.o g r.size cap first r.xs.length (r.cnt n) n w hl h.blk hfit h.small hfirst (by omega) hc h.o hcase).mono ?_
    rintro e w' ⟨rfl, hu, hb'⟩
    refine ⟨rfl, ⟨cap, (first + r.cnt n) % r.size, bs, rest, ?_⟩, hu⟩
    have hxl : (r.drop n).xs.length = r.xs.length - r.cnt n := by simp [RingM.drop]
    have hwin := win_drop rfl hfit hfirst hc h.win
    have hlt : (first + r.cnt n) % r.size < r.size := Nat.mod_lt _ (by omega)
    exact { blk := hb'.eq (by rw [hxl]; rfl), row := h.row.upd hu (by simpa using h.ne.symm), ne := h.ne, len := h.len, small := h.small, cap := h.cap,
            fit := by rw [hxl]; exact Nat.le_trans (Nat.sub_le _ _) hfit, hfirst := Or.inl hlt, i := h.i, o := Nat.mod_lt _ (by omega), win := hwin }

end Go.Proofs.Ytnbhgfnjnccakaa
