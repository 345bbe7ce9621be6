/- The chapter's example of the relay, and the law RelayResets. -/
import Derived.Test.YtnbhgfnjnccakaaBoth
namespace Go.Proofs.Ytnbhgfnjnccakaa
open Go Go.RowKit
set_option linter.unusedVariables false

set_option maxHeartbeats 2000000 in
set_option maxRecDepth 100000 in
theorem relay_works (w : World) : Calls Try.prog 36 #[] w (Fine w (.bool true)) := by
  have hb : w.heap.size ≤ w.heap.size := Nat.le_refl _
  go_enter Try.func36, Try.ntmps36
  go_wp2_with fail
  refine (both_ok 9 w (by decide) (by decide)).mono ?_
  rintro e w1 ⟨b, l, c, L, rfl, T⟩
  have h1 : PortAt w1 w.heap.size b l ⟨2, 9, [EndM.reset 1, EndM.reset 1, EndM.reset 1, EndM.reset 0], [], []⟩ := T.P
  have hU1 := T.U
  clear T
  have hD : Calls Try.prog 17 #[.pointer (some ⟨b, 0, none⟩), evV 2 0 0 [97, 98, 99] none 0 0] w1 (EvPost w1 w.heap.size b l 3 0 ⟨2, 9, [⟨[97, 98, 99], 1, 0, false, false, false⟩, EndM.reset 1, EndM.reset 1, EndM.reset 0], [], []⟩) := ev_data_ok 0 [97, 98, 99] (by decide) none 0 0 (i := 0) h1 rfl rfl rfl
  go_wp2_with fail
  refine hD.mono ?_
  rintro e w2 ⟨rfl, hp⟩
  have hU2 := h1.below hp.2 hU1 hb
  have h2 := hp.1
  clear h1 hU1 hp hD
  have hE : Calls Try.prog 17 #[.pointer (some ⟨b, 0, none⟩), evV 5 1 2 [] none 0 0] w2 (EvPost w2 w.heap.size b l 0 0 ⟨2, 9, [⟨[97, 98, 99], 1, 0, false, false, false⟩, ⟨[], 1, 2, false, false, false⟩, EndM.reset 1, EndM.reset 0], [], []⟩) := ev_room_ok 2 [] none 0 0 (i := 1) h2 rfl rfl
  go_wp2_with fail
  refine hE.mono ?_
  rintro e w3 ⟨rfl, hp⟩
  have hU3 := h2.below hp.2 hU2 hb
  have h3 := hp.1
  clear h2 hU2 hp hE
  have hM : Calls Try.prog 40 #[.pointer (some ⟨b, 0, none⟩), .int .i64 0, .int .i64 1, .int .i64 9] w3 fun e w' => e = .returned (.tuple #[.int .i64 2, .int .i64 0]) ∧ PPost w3 w.heap.size b l ⟨2, 9, [⟨[99], 1, 0, false, false, false⟩, ⟨[], 1, 0, false, false, false⟩, EndM.reset 1, EndM.reset 0], [], [⟨2, 1, strB [97, 98], DestM.zero⟩]⟩ w' := rl_move 0 1 9 h3 (by decide)
  go_wp2_with fail
  refine hM.mono ?_
  rintro e w4 ⟨rfl, l4, h4, hu4, hW4⟩
  have hU4 := h3.below hu4 hU3 hb
  clear h3 hU3 hu4 hW4 hM
  have hE : Calls Try.prog 17 #[.pointer (some ⟨b, 0, none⟩), evV 5 1 5 [] none 0 0] w4 (EvPost w4 w.heap.size b l4 0 0 ⟨2, 9, [⟨[99], 1, 0, false, false, false⟩, ⟨[], 1, 5, false, false, false⟩, EndM.reset 1, EndM.reset 0], [], [⟨2, 1, strB [97, 98], DestM.zero⟩]⟩) := ev_room_ok 5 [] none 0 0 (i := 1) h4 rfl rfl
  go_wp2_with fail
  refine hE.mono ?_
  rintro e w5 ⟨rfl, hp⟩
  have hU5 := h4.below hp.2 hU4 hb
  have h5 := hp.1
  clear h4 hU4 hp hE
  have hM : Calls Try.prog 40 #[.pointer (some ⟨b, 0, none⟩), .int .i64 0, .int .i64 1, .int .i64 9] w5 fun e w' => e = .returned (.tuple #[.int .i64 1, .int .i64 0]) ∧ PPost w5 w.heap.size b l4 ⟨2, 9, [⟨[], 1, 0, false, false, false⟩, ⟨[], 1, 4, false, false, false⟩, EndM.reset 1, EndM.reset 0], [], [⟨2, 1, strB [97, 98], DestM.zero⟩, ⟨2, 1, strB [99], DestM.zero⟩]⟩ w' := rl_move 0 1 9 h5 (by decide)
  go_wp2_with fail
  refine hM.mono ?_
  rintro e w6 ⟨rfl, l6, h6, hu6, hW6⟩
  have hU6 := h5.below hu6 hU5 hb
  clear h5 hU5 hu6 hW6 hM
  have hO := pt_outs h6
  go_wp2_with fail
  refine hO.mono ?_
  rintro e w7 ⟨ov, rfl, hov, hot, l7, h7, hu7, hW7⟩
  have hU7 := h6.below hu7 hU6 hb
  have hN := blk_new' w7 51 #[.int .i64 0, .int .i64 2, .int .i64 1, .string ⟨#[97, 98]⟩, .int .u8 0, .int .u8 0, .int .u8 0, .int .u8 0, .string ⟨#[]⟩, .int .i64 0, .int .i64 0, .int .i64 2, .int .i64 1, .string ⟨#[99]⟩, .int .u8 0, .int .u8 0, .int .u8 0, .int .u8 0, .string ⟨#[]⟩, .int .i64 0]
  have k7 : Upd [] w7 (w7.alloc (.cells #[.int .i64 0, .int .i64 2, .int .i64 1, .string ⟨#[97, 98]⟩, .int .u8 0, .int .u8 0, .int .u8 0, .int .u8 0, .string ⟨#[]⟩, .int .i64 0, .int .i64 0, .int .i64 2, .int .i64 1, .string ⟨#[99]⟩, .int .u8 0, .int .u8 0, .int .u8 0, .int .u8 0, .string ⟨#[]⟩, .int .i64 0] 51)) := (Upd.refl _ _).alloc _
  have hov2 := hov.upd k7 (by simp)
  have hU8 := hU7.trans_same k7
  have hown : Own (w7.alloc (.cells #[.int .i64 0, .int .i64 2, .int .i64 1, .string ⟨#[97, 98]⟩, .int .u8 0, .int .u8 0, .int .u8 0, .int .u8 0, .string ⟨#[]⟩, .int .i64 0, .int .i64 0, .int .i64 2, .int .i64 1, .string ⟨#[99]⟩, .int .u8 0, .int .u8 0, .int .u8 0, .int .u8 0, .string ⟨#[]⟩, .int .i64 0] 51)) w7.heap.size 51 10 (.slice (some ⟨w7.heap.size, 0, none⟩) 2 2) 2 (outsC [⟨2, 1, strB [97, 98], DestM.zero⟩, ⟨2, 1, strB [99], DestM.zero⟩]) :=
    ⟨rfl, Or.inr ⟨w7.heap.size, 0, 2, [], [], rfl, Nat.le_refl _, hN, rfl, by simp, Nat.le_refl _, by decide⟩⟩
  have hSm := sameOuts_ok (os := [⟨2, 1, strB [97, 98], DestM.zero⟩, ⟨2, 1, strB [99], DestM.zero⟩]) hov2 hown rfl
  clear hO h6 hov hN k7 hov2 hown hU6 hu7 hW7 hot h7
  go_wp2_with fail
  refine hSm.mono ?_
  rintro e w12 ⟨rfl, k12⟩
  go_wp2_with fail
  go_ret
  exact ⟨rfl, hU8.trans_same k12⟩

/-! ### RelayResets -/

def RP (xs : List UInt8) (room : Nat) : EndM := ⟨xs, 1, room, false, false, false⟩

set_option maxHeartbeats 2000000 in
set_option maxRecDepth 100000 in
theorem relayResets_law (w : World) (s : ByteArray) (hs : s.size ≤ 140737488355328) (which : Bool) :
    Calls Try.prog 8 #[.string s, .bool which] w (Fine w (.bool true)) := by
  obtain ⟨bs, rfl⟩ : ∃ bs, s = strB bs := ⟨s.data.toList, rfl⟩
  have hbl : bs.length ≤ 140737488355328 := hs
  go_enter Try.func8, Try.ntmps8
  go_wp2_with fail
  refine (relay_works _).mono ?_
  rintro e w0 ⟨rfl, hU0⟩
  go_wp2_with fail
  refine (both_ok 64 w0 (by decide) (by decide)).mono ?_
  rintro e w1 ⟨b, l, c, L, rfl, T⟩
  have h1 : PortAt w1 w0.heap.size b l ⟨2, 64, [EndM.reset 1, EndM.reset 1, EndM.reset 1, EndM.reset 0], [], []⟩ := T.P
  have hU1 := hU0.trans_same T.U
  have hb : w.heap.size ≤ w0.heap.size := hU0.size
  clear T hU0
  cases which
  · have hD : Calls Try.prog 17 #[.pointer (some ⟨b, 0, none⟩), evV 2 0 0 bs none 0 0] w1 (EvPost w1 w0.heap.size b l (putK 64 [] bs) 0 ⟨2, 64, [RP ([] ++ bs.take (putK 64 [] bs)) 0, EndM.reset 1, EndM.reset 1, EndM.reset 0], [], []⟩) := ev_data_ok 0 bs hbl none 0 0 (i := 0) h1 rfl rfl rfl
    generalize [] ++ bs.take (putK 64 [] bs) = ys at *
    generalize putK 64 [] bs = n at *
    go_wp2_with fail
    refine hD.mono ?_
    rintro e w2 ⟨rfl, hp⟩
    have hU2 := h1.below hp.2 hU1 hb
    have h2 := hp.1
    clear h1 hU1 hp hD
    have hE : Calls Try.prog 17 #[.pointer (some ⟨b, 0, none⟩), evV 5 2 100 [] none 0 0] w2 (EvPost w2 w0.heap.size b l 0 0 ⟨2, 64, [RP ys 0, EndM.reset 1, RP [] 100, EndM.reset 0], [], []⟩) := ev_room_ok 100 [] none 0 0 (i := 2) h2 rfl rfl
    go_wp2_with fail
    refine hE.mono ?_
    rintro e w3 ⟨rfl, hp⟩
    have hU3 := h2.below hp.2 hU2 hb
    have h3 := hp.1
    clear h2 hU2 hp hE
    have hE : Calls Try.prog 17 #[.pointer (some ⟨b, 0, none⟩), evV 4 0 0 [] none 0 0] w3 (EvPost w3 w0.heap.size b l 0 0 ⟨2, 64, [EndM.reset 3, EndM.reset 1, RP [] 100, EndM.reset 0], [], []⟩) := ev_reset_old 0 [] none 0 0 (i := 0) h3 rfl (by show 1 ≠ 0; decide) (by show 1 ≠ 3; decide) rfl
    go_wp2_with fail
    refine hE.mono ?_
    rintro e w4 ⟨rfl, hp⟩
    have hU4 := h3.below hp.2 hU3 hb
    have h4 := hp.1
    clear h3 hU3 hp hE
    have hM : Calls Try.prog 38 #[.pointer (some ⟨b, 0, none⟩), .int .i64 0, .int .i64 2, .int .i64 9] w4 fun e w' => e = .returned (.tuple #[.int .i64 0, .bool true, .int .i64 0]) ∧ PPost w4 w0.heap.size b l ⟨2, 64, [EndM.reset 0, EndM.reset 1, EndM.reset 0, EndM.reset 0], [], [⟨4, 2, .empty, DestM.zero⟩]⟩ w' := rl_step 0 2 9 h4 (by decide)
    go_wp2_with fail
    refine hM.mono ?_
    rintro e w5 ⟨rfl, l5, h5, hu5, hW5⟩
    have hU5 := h4.below hu5 hU4 hb
    clear h4 hU4 hu5 hW5 hM
    have hS0 : Calls Try.prog 25 #[.pointer (some ⟨b, 0, none⟩), .int .i64 0] w5 fun e w' => e = .returned (.tuple #[.int .i64 0, .int .i64 0]) ∧ w5 = w' := pt_state 0 h5
    have hS2 : Calls Try.prog 25 #[.pointer (some ⟨b, 0, none⟩), .int .i64 2] w5 fun e w' => e = .returned (.tuple #[.int .i64 0, .int .i64 0]) ∧ w5 = w' := pt_state 2 h5
    have hO := pt_outs h5
    go_wp2_with fail
    refine hS0.mono ?_
    rintro e w' ⟨rfl, rfl⟩
    go_wp2_with fail
    refine hS2.mono ?_
    rintro e w' ⟨rfl, rfl⟩
    go_wp2_with fail
    refine hO.mono ?_
    rintro e w7 ⟨ov, rfl, hov, hot, l7, h7, hu7, hW7⟩
    have hU7 := h5.below hu7 hU5 hb
    have hN := blk_new' w7 51 #[.int .i64 0, .int .i64 4, .int .i64 2, .string ⟨#[]⟩, .int .u8 0, .int .u8 0, .int .u8 0, .int .u8 0, .string ⟨#[]⟩, .int .i64 0]
    have k7 : Upd [] w7 (w7.alloc (.cells #[.int .i64 0, .int .i64 4, .int .i64 2, .string ⟨#[]⟩, .int .u8 0, .int .u8 0, .int .u8 0, .int .u8 0, .string ⟨#[]⟩, .int .i64 0] 51)) := (Upd.refl _ _).alloc _
    have hov2 := hov.upd k7 (by simp)
    have hU8 := hU7.trans_same k7
    have hown : Own (w7.alloc (.cells #[.int .i64 0, .int .i64 4, .int .i64 2, .string ⟨#[]⟩, .int .u8 0, .int .u8 0, .int .u8 0, .int .u8 0, .string ⟨#[]⟩, .int .i64 0] 51)) w7.heap.size 51 10 (.slice (some ⟨w7.heap.size, 0, none⟩) 1 1) 1 (outsC [⟨4, 2, .empty, DestM.zero⟩]) :=
      ⟨rfl, Or.inr ⟨w7.heap.size, 0, 1, [], [], rfl, Nat.le_refl _, hN, rfl, by simp, Nat.le_refl _, by decide⟩⟩
    have hSm := sameOuts_ok (os := [⟨4, 2, .empty, DestM.zero⟩]) hov2 hown rfl
    clear hO h5 hov hN k7 hov2 hown hU5 hu7 hW7 hot h7 hS0 hS2
    go_wp2_with fail
    refine hSm.mono ?_
    rintro e w12 ⟨rfl, k12⟩
    go_wp2_with fail
    go_ret
    exact ⟨rfl, hU8.trans_same k12⟩
  · have hD : Calls Try.prog 17 #[.pointer (some ⟨b, 0, none⟩), evV 2 2 0 bs none 0 0] w1 (EvPost w1 w0.heap.size b l (putK 64 [] bs) 0 ⟨2, 64, [EndM.reset 1, EndM.reset 1, RP ([] ++ bs.take (putK 64 [] bs)) 0, EndM.reset 0], [], []⟩) := ev_data_ok 0 bs hbl none 0 0 (i := 2) h1 rfl rfl rfl
    generalize [] ++ bs.take (putK 64 [] bs) = ys at *
    generalize putK 64 [] bs = n at *
    go_wp2_with fail
    refine hD.mono ?_
    rintro e w2 ⟨rfl, hp⟩
    have hU2 := h1.below hp.2 hU1 hb
    have h2 := hp.1
    clear h1 hU1 hp hD
    have hE : Calls Try.prog 17 #[.pointer (some ⟨b, 0, none⟩), evV 5 0 100 [] none 0 0] w2 (EvPost w2 w0.heap.size b l 0 0 ⟨2, 64, [RP [] 100, EndM.reset 1, RP ys 0, EndM.reset 0], [], []⟩) := ev_room_ok 100 [] none 0 0 (i := 0) h2 rfl rfl
    go_wp2_with fail
    refine hE.mono ?_
    rintro e w3 ⟨rfl, hp⟩
    have hU3 := h2.below hp.2 hU2 hb
    have h3 := hp.1
    clear h2 hU2 hp hE
    have hE : Calls Try.prog 17 #[.pointer (some ⟨b, 0, none⟩), evV 4 2 0 [] none 0 0] w3 (EvPost w3 w0.heap.size b l 0 0 ⟨2, 64, [RP [] 100, EndM.reset 1, EndM.reset 3, EndM.reset 0], [], []⟩) := ev_reset_old 0 [] none 0 0 (i := 2) h3 rfl (by show 1 ≠ 0; decide) (by show 1 ≠ 3; decide) rfl
    go_wp2_with fail
    refine hE.mono ?_
    rintro e w4 ⟨rfl, hp⟩
    have hU4 := h3.below hp.2 hU3 hb
    have h4 := hp.1
    clear h3 hU3 hp hE
    have hM : Calls Try.prog 38 #[.pointer (some ⟨b, 0, none⟩), .int .i64 0, .int .i64 2, .int .i64 9] w4 fun e w' => e = .returned (.tuple #[.int .i64 0, .bool true, .int .i64 0]) ∧ PPost w4 w0.heap.size b l ⟨2, 64, [EndM.reset 0, EndM.reset 1, EndM.reset 0, EndM.reset 0], [], [⟨4, 0, .empty, DestM.zero⟩]⟩ w' := rl_step 0 2 9 h4 (by decide)
    go_wp2_with fail
    refine hM.mono ?_
    rintro e w5 ⟨rfl, l5, h5, hu5, hW5⟩
    have hU5 := h4.below hu5 hU4 hb
    clear h4 hU4 hu5 hW5 hM
    have hS0 : Calls Try.prog 25 #[.pointer (some ⟨b, 0, none⟩), .int .i64 0] w5 fun e w' => e = .returned (.tuple #[.int .i64 0, .int .i64 0]) ∧ w5 = w' := pt_state 0 h5
    have hS2 : Calls Try.prog 25 #[.pointer (some ⟨b, 0, none⟩), .int .i64 2] w5 fun e w' => e = .returned (.tuple #[.int .i64 0, .int .i64 0]) ∧ w5 = w' := pt_state 2 h5
    have hO := pt_outs h5
    go_wp2_with fail
    refine hS0.mono ?_
    rintro e w' ⟨rfl, rfl⟩
    go_wp2_with fail
    refine hS2.mono ?_
    rintro e w' ⟨rfl, rfl⟩
    go_wp2_with fail
    refine hO.mono ?_
    rintro e w7 ⟨ov, rfl, hov, hot, l7, h7, hu7, hW7⟩
    have hU7 := h5.below hu7 hU5 hb
    have hN := blk_new' w7 51 #[.int .i64 0, .int .i64 4, .int .i64 0, .string ⟨#[]⟩, .int .u8 0, .int .u8 0, .int .u8 0, .int .u8 0, .string ⟨#[]⟩, .int .i64 0]
    have k7 : Upd [] w7 (w7.alloc (.cells #[.int .i64 0, .int .i64 4, .int .i64 0, .string ⟨#[]⟩, .int .u8 0, .int .u8 0, .int .u8 0, .int .u8 0, .string ⟨#[]⟩, .int .i64 0] 51)) := (Upd.refl _ _).alloc _
    have hov2 := hov.upd k7 (by simp)
    have hU8 := hU7.trans_same k7
    have hown : Own (w7.alloc (.cells #[.int .i64 0, .int .i64 4, .int .i64 0, .string ⟨#[]⟩, .int .u8 0, .int .u8 0, .int .u8 0, .int .u8 0, .string ⟨#[]⟩, .int .i64 0] 51)) w7.heap.size 51 10 (.slice (some ⟨w7.heap.size, 0, none⟩) 1 1) 1 (outsC [⟨4, 0, .empty, DestM.zero⟩]) :=
      ⟨rfl, Or.inr ⟨w7.heap.size, 0, 1, [], [], rfl, Nat.le_refl _, hN, rfl, by simp, Nat.le_refl _, by decide⟩⟩
    have hSm := sameOuts_ok (os := [⟨4, 0, .empty, DestM.zero⟩]) hov2 hown rfl
    clear hO h5 hov hN k7 hov2 hown hU5 hu7 hW7 hot h7 hS0 hS2
    go_wp2_with fail
    refine hSm.mono ?_
    rintro e w12 ⟨rfl, k12⟩
    go_wp2_with fail
    go_ret
    exact ⟨rfl, hU8.trans_same k12⟩

end Go.Proofs.Ytnbhgfnjnccakaa
