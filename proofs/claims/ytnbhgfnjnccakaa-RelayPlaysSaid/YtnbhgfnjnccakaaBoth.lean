/- The walk of both (sallyportlaw19): a port with clients 0 and 1 open, and a server 2 that is up, and the document's one. -/
import Derived.Test.YtnbhgfnjnccakaaTwo
namespace Go.Proofs.Ytnbhgfnjnccakaa
open Go Go.RowKit
set_option linter.unusedVariables false

theorem within_keep {w : World} {F G : List Nat} {q : Nat} (hW : Within w G F) (hq : q ∉ F) (hl : q < w.heap.size) : q ∉ G := fun h => by
  rcases hW q h with h' | h'
  · exact hq h'
  · omega

def bothE (size : Nat) : PortM := ⟨2, size, [EndM.reset 1, EndM.reset 1, EndM.reset 1, EndM.reset 0], [], []⟩
def bothS (size : Nat) : Nat → PortM
  | 0 => ⟨2, size, [EndM.reset 0, EndM.reset 0, EndM.reset 0, EndM.reset 0], [], []⟩
  | 1 => ⟨2, size, [EndM.reset 1, EndM.reset 0, EndM.reset 0, EndM.reset 0], [], []⟩
  | _ => ⟨2, size, [EndM.reset 1, EndM.reset 1, EndM.reset 0, EndM.reset 0], [], []⟩
/-- Opened, not accepted. -/
def bothF : EndM := ⟨[], 1, 0, true, false, false⟩
def bothO (size : Nat) : Nat → PortM
  | 0 => ⟨2, size, [bothF, EndM.reset 0, EndM.reset 0, EndM.reset 0], [], []⟩
  | _ => ⟨2, size, [EndM.reset 1, bothF, EndM.reset 0, EndM.reset 0], [], []⟩
def bothD (size : Nat) (st : Nat) : PortM := ⟨2, size, [EndM.reset 1, EndM.reset 1, EndM.reset st, EndM.reset 0], [], [⟨1, 2, .empty, ⟨0, 0, 0, 0, .empty, 80⟩⟩]⟩

def BothPost (w : World) (size : Nat) (e : Ending) (w' : World) : Prop :=
  ∃ b l c L, e = .returned (.tuple #[.pointer (some ⟨b, 0, none⟩), .pointer (some ⟨c, 0, none⟩), .bool true]) ∧ Two w w' b l (bothE size) c L (bothE size)

def evCells : List Value := [.int .i64 1, .int .i64 0, .int .i64 0, .string ⟨#[]⟩, .slice none 0 0, .int .i64 1, .int .i64 1, .int .i64 0, .string ⟨#[]⟩, .slice none 0 0]
def BothRel (w : World) (X b c size k : Nat) (wr : World) : Prop :=
  ∃ l L, Two w wr b l (bothS size k) c L (bothS size k) ∧ Blk wr X 34 evCells ∧ X ∉ l.foot ∧ X ∉ L.foot

set_option maxHeartbeats 2000000 in
set_option maxRecDepth 100000 in
theorem both_ok (size : Nat) (w : World) (hz1 : 1 ≤ size) (hz : size ≤ 65536) : Calls Try.prog 37 #[.int .i64 size] w (BothPost w size) := by
  go_enter Try.func37, Try.ntmps37
  go_wp2_with fail
  refine (pt_new 2 2 size _ (by decide) (by decide) hz1 hz).mono ?_
  rintro e w1 ⟨b, l, rfl, h1, k1⟩
  go_wp2_with fail
  refine (rp_new 2 2 size _ (by decide) (by decide) hz1 hz).mono ?_
  rintro e w2 ⟨c, L, rfl, h2, k2⟩
  have T0 := Two.made h1 k1 h2 k2
  clear h1 k1 h2 k2
  have kl : Upd [] w2 (w2.alloc (.cells #[.int .i64 1, .int .i64 0, .int .i64 0, .string ⟨#[]⟩, .slice none 0 0, .int .i64 1, .int .i64 1, .int .i64 0, .string ⟨#[]⟩, .slice none 0 0] 34)) := (Upd.refl _ _).alloc _
  have hX0 := blk_new' w2 34 #[.int .i64 1, .int .i64 0, .int .i64 0, .string ⟨#[]⟩, .slice none 0 0, .int .i64 1, .int .i64 1, .int .i64 0, .string ⟨#[]⟩, .slice none 0 0]
  have hst : BothRel w w2.heap.size b c size 0 (w2.alloc (.cells #[.int .i64 1, .int .i64 0, .int .i64 0, .string ⟨#[]⟩, .slice none 0 0, .int .i64 1, .int .i64 1, .int .i64 0, .string ⟨#[]⟩, .slice none 0 0] 34)) :=
    ⟨l, L, T0.up kl, hX0, T0.P.fresh (Nat.le_refl _), T0.Y.fresh (Nat.le_refl _)⟩
  clear kl hX0 T0
  go_wp2_with fail
  generalize w2.heap.size = X at *
  generalize w2.alloc (.cells #[.int .i64 1, .int .i64 0, .int .i64 0, .string ⟨#[]⟩, .slice none 0 0, .int .i64 1, .int .i64 1, .int .i64 0, .string ⟨#[]⟩, .slice none 0 0] 34) = w3 at *
  go_loopw [10] (fun i wr => ∃ k : Nat, k ≤ 2 ∧ i = .int .i64 k ∧ BothRel w X b c size k wr) (fun i _ => 2 - (intOf i).toNat)
  case atStart => exact ⟨0, Nat.zero_le _, rfl, hst⟩
  case round =>
    clear hst
    obtain ⟨k, hk, rfl, l, L, T, hX, n1, n2⟩ := hrel
    rcases (show k = 0 ∨ k = 1 ∨ k = 2 by omega) with rfl | rfl | rfl
    · have hO : Calls Try.prog 17 #[.pointer (some ⟨b, 0, none⟩), evV 1 0 0 [] none 0 0] wr (EvPost wr w.heap.size b l 0 0 (bothO size 0)) := ev_open_ok 0 [] none 0 0 (i := 0) T.P rfl (by show 0 < 2; decide) rfl
      have x0 := hX.cell (i := 0) rfl
      have x1 := hX.cell (i := 1) rfl
      have x2 := hX.cell (i := 2) rfl
      have x3 := hX.cell (i := 3) rfl
      have x4 := hX.cell (i := 4) rfl
      go_wp2_with fail
      refine hO.mono ?_
      rintro e w4 ⟨rfl, hp⟩
      have T1 := T.portS hp
      have hX1 := hX.upd hp.2 n1
      clear hO hp T hX x0 x1 x2 x3 x4
      have hO : Calls Try.prog 45 #[.pointer (some ⟨c, 0, none⟩), evV 1 0 0 [] none 0 0] w4 (REvPost w4 w.heap.size c L 0 0 (bothO size 0)) := rv_open_ok 0 [] none 0 0 (i := 0) T1.Y rfl (by show 0 < 2; decide) rfl
      have x0 := hX1.cell (i := 0) rfl
      have x1 := hX1.cell (i := 1) rfl
      have x2 := hX1.cell (i := 2) rfl
      have x3 := hX1.cell (i := 3) rfl
      have x4 := hX1.cell (i := 4) rfl
      go_wp2_with fail
      refine hO.mono ?_
      rintro e w5 ⟨rfl, hp⟩
      obtain ⟨L1, T2, hu, hW⟩ := T1.ref hp
      have hX2 := hX1.upd hu n2
      have n2' := within_keep hW n2 hX1.lt
      clear hO hp T1 hX1 x0 x1 x2 x3 x4 hu hW n2
      have hA : Calls Try.prog 28 #[.pointer (some ⟨b, 0, none⟩)] w5 (EvPost w5 w.heap.size b l 0 0 (bothS size 1)) := pt_accept T2.P
      go_wp2_with fail
      refine hA.mono ?_
      rintro e w6 ⟨rfl, hp⟩
      have T3 := T2.portS hp
      have hX3 := hX2.upd hp.2 n1
      clear hA hp T2 hX2
      have hA : Calls Try.prog 66 #[.pointer (some ⟨c, 0, none⟩)] w6 (REvPost w6 w.heap.size c L1 0 0 (bothS size 1)) := rp_accept T3.Y
      go_wp2_with fail
      refine hA.mono ?_
      rintro e w7 ⟨rfl, hp⟩
      obtain ⟨L2, T4, hu, hW⟩ := T3.ref hp
      have hR : BothRel w X b c size 1 w7 := ⟨l, L2, T4, hX3.upd hu n2', n1, within_keep hW n2' hX3.lt⟩
      clear hA hp T3 hX3 T4 hu hW n1 n2'
      go_wp2_with fail
      go_roundw
      case rel => exact ⟨1, by decide, rfl, hR⟩
      case measure => simp [intOf]
    · have hO : Calls Try.prog 17 #[.pointer (some ⟨b, 0, none⟩), evV 1 1 0 [] none 0 0] wr (EvPost wr w.heap.size b l 0 0 (bothO size 1)) := ev_open_ok 0 [] none 0 0 (i := 1) T.P rfl (by show 1 < 2; decide) rfl
      have x0 := hX.cell (i := 5) rfl
      have x1 := hX.cell (i := 6) rfl
      have x2 := hX.cell (i := 7) rfl
      have x3 := hX.cell (i := 8) rfl
      have x4 := hX.cell (i := 9) rfl
      go_wp2_with fail
      refine hO.mono ?_
      rintro e w4 ⟨rfl, hp⟩
      have T1 := T.portS hp
      have hX1 := hX.upd hp.2 n1
      clear hO hp T hX x0 x1 x2 x3 x4
      have hO : Calls Try.prog 45 #[.pointer (some ⟨c, 0, none⟩), evV 1 1 0 [] none 0 0] w4 (REvPost w4 w.heap.size c L 0 0 (bothO size 1)) := rv_open_ok 0 [] none 0 0 (i := 1) T1.Y rfl (by show 1 < 2; decide) rfl
      have x0 := hX1.cell (i := 5) rfl
      have x1 := hX1.cell (i := 6) rfl
      have x2 := hX1.cell (i := 7) rfl
      have x3 := hX1.cell (i := 8) rfl
      have x4 := hX1.cell (i := 9) rfl
      go_wp2_with fail
      refine hO.mono ?_
      rintro e w5 ⟨rfl, hp⟩
      obtain ⟨L1, T2, hu, hW⟩ := T1.ref hp
      have hX2 := hX1.upd hu n2
      have n2' := within_keep hW n2 hX1.lt
      clear hO hp T1 hX1 x0 x1 x2 x3 x4 hu hW n2
      have hA : Calls Try.prog 28 #[.pointer (some ⟨b, 0, none⟩)] w5 (EvPost w5 w.heap.size b l 1 0 (bothS size 2)) := pt_accept T2.P
      go_wp2_with fail
      refine hA.mono ?_
      rintro e w6 ⟨rfl, hp⟩
      have T3 := T2.portS hp
      have hX3 := hX2.upd hp.2 n1
      clear hA hp T2 hX2
      have hA : Calls Try.prog 66 #[.pointer (some ⟨c, 0, none⟩)] w6 (REvPost w6 w.heap.size c L1 1 0 (bothS size 2)) := rp_accept T3.Y
      go_wp2_with fail
      refine hA.mono ?_
      rintro e w7 ⟨rfl, hp⟩
      obtain ⟨L2, T4, hu, hW⟩ := T3.ref hp
      have hR : BothRel w X b c size 2 w7 := ⟨l, L2, T4, hX3.upd hu n2', n1, within_keep hW n2' hX3.lt⟩
      clear hA hp T3 hX3 T4 hu hW n1 n2'
      go_wp2_with fail
      go_roundw
      case rel => exact ⟨2, by decide, rfl, hR⟩
      case measure => simp [intOf]
    · clear hX n1 n2
      have hD : Calls Try.prog 52 #[.pointer (some ⟨b, 0, none⟩), destV ⟨0, 0, 0, 0, .empty, 80⟩] wr fun e w' => e = .returned (.tuple #[.int .i64 2, .int .i64 0]) ∧ PPost wr w.heap.size b l (bothD size 2) w' :=
        pt_dial_ok ⟨0, 0, 0, 0, .empty, 80⟩ T.P (by decide) (by decide) rfl (by show 0 < 1099511627776; decide) (by show 2 < 4; decide)
      go_wp2_with fail
      refine hD.mono ?_
      rintro e w4 ⟨rfl, hp⟩
      obtain ⟨l1, T1, _, _⟩ := T.port hp
      clear hD hp T
      have hD : Calls Try.prog 71 #[.pointer (some ⟨c, 0, none⟩), destV ⟨0, 0, 0, 0, .empty, 80⟩] w4 fun e w' => e = .returned (.tuple #[.int .i64 2, .int .i64 0]) ∧ RPost w4 w.heap.size c L (bothD size 2) w' :=
        rp_dial_ok ⟨0, 0, 0, 0, .empty, 80⟩ T1.Y (by decide) (by decide) rfl (by show 0 < 1099511627776; decide) (by show 2 ≤ 4; decide) (by show 2 < 4; decide)
      go_wp2_with fail
      refine hD.mono ?_
      rintro e w5 ⟨rfl, hp⟩
      obtain ⟨L1, T2, _, _⟩ := T1.ref hp
      clear hD hp T1
      have hO : Calls Try.prog 17 #[.pointer (some ⟨b, 0, none⟩), evV 6 2 0 [] none 0 0] w5 (EvPost w5 w.heap.size b l1 0 0 (bothD size 1)) := ev_up_ok 0 [] none 0 0 (i := 2) T2.P rfl (by show ¬ 2 < 2; decide) rfl
      go_wp2_with fail
      refine hO.mono ?_
      rintro e w6 ⟨rfl, hp⟩
      have T3 := T2.portS hp
      clear hO hp T2
      have hO : Calls Try.prog 45 #[.pointer (some ⟨c, 0, none⟩), evV 6 2 0 [] none 0 0] w6 (REvPost w6 w.heap.size c L1 0 0 (bothD size 1)) := rv_up_ok 0 [] none 0 0 (i := 2) T3.Y rfl (by show ¬ 2 < 2; decide) rfl
      go_wp2_with fail
      refine hO.mono ?_
      rintro e w7 ⟨rfl, hp⟩
      obtain ⟨L2, T4, _, _⟩ := T3.ref hp
      clear hO hp T3
      have hU := pt_outs T4.P
      go_wp2_with fail
      refine hU.mono ?_
      rintro e w8 ⟨ov, rfl, _, _, hp⟩
      obtain ⟨l3, T5, _, _⟩ := T4.port hp
      clear hU hp T4
      have hU := rp_outs T5.Y
      go_wp2_with fail
      refine hU.mono ?_
      rintro e w9 ⟨ov, rfl, _, _, hp⟩
      obtain ⟨L3, T6, _, _⟩ := T5.ref hp
      have T7 : Two w w9 b l3 (bothE size) c L3 (bothE size) := T6
      clear hU hp T5 T6
      go_wp2_with fail
      go_ret3
      exact ⟨b, l3, c, L3, rfl, T7⟩

end Go.Proofs.Ytnbhgfnjnccakaa
