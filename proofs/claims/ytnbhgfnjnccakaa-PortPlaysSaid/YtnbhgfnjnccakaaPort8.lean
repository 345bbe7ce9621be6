/- The chapter's example of the port. -/
import Derived.Test.YtnbhgfnjnccakaaPort7
namespace Go.Proofs.Ytnbhgfnjnccakaa
open Go Go.RowKit
set_option linter.unusedVariables false

def Fine (w : World) (v : Value) (e : Ending) (w' : World) : Prop := e = .returned v ∧ Upd [] w w'

theorem PortAt.below {w w0 w' : World} {base b : Nat} {l : PLay} {p : PortM} (h : PortAt w base b l p) (hp : Upd l.foot w w') (hU : Upd [] w0 w) (hb : w0.heap.size ≤ base) : Upd [] w0 w' :=
  hU.trans (fun q hq => Or.inr (Nat.le_trans hb (h.ge q hq))) hp
theorem PLay.has.mono {l : PLay} {base base' n q : Nat} (h : l.has base n q) (hb : base' ≤ base) : l.has base' n q := ⟨Nat.le_trans hb h.1, h.2⟩
theorem PortAt.mono {w : World} {base base' b : Nat} {l : PLay} {p : PortM} (h : PortAt w base b l p) (hb : base' ≤ base) : PortAt w base' b l p := by
  obtain ⟨xs, h1, h2⟩ := h.ends
  obtain ⟨ys, h3, h4⟩ := h.box
  exact { h with
    ends := ⟨xs, h1.mono hb, h2⟩
    box := ⟨ys, h3.mono hb, fun i bs hi hsz => by
      obtain ⟨v, e1, e2, e3⟩ := h4 i bs hi hsz
      exact ⟨v, e1, e2, fun q hq => (e3 q hq).mono hb⟩⟩
    outs := h.outs.mono hb
    tb := h.tb.mono hb
    tl := fun q hq => (h.tl q hq).mono hb
    tx := fun q hq => (h.tx q hq).mono hb
    to := fun q hq => (h.to q hq).mono hb
    tr := fun i hi => ⟨(h.tr i hi).1.mono hb, (h.tr i hi).2.mono hb⟩
    ge := fun q hq => Nat.le_trans hb (h.ge q hq) }
/-- A block that is not the port's stays so. -/
theorem foot_keep {w : World} {l l' : PLay} {q : Nat} (hW : Within w l'.foot l.foot) (hq : q ∉ l.foot) (hl : q < w.heap.size) : q ∉ l'.foot := fun h => by
  rcases hW q h with h' | h'
  · exact hq h'
  · omega
theorem PortAt.fresh {w : World} {base b : Nat} {l : PLay} {p : PortM} (h : PortAt w base b l p) {q : Nat} (hq : w.heap.size ≤ q) : q ∉ l.foot := fun h' => by have := h.lt q h'; omega

set_option maxHeartbeats 2000000 in
set_option maxRecDepth 100000 in
theorem port_works (w : World) : Calls Try.prog 14 #[] w (Fine w (.bool true)) := by
  have kc := fun (w : World) (C : Array Value) (n c : Nat) => Lib.run_convert_bytes_const (P := Try.prog) w 35 5 C n c Try.underlying35 Try.underlying5
  go_enter Try.func14, Try.ntmps14
  go_wp2_with fail
  refine (pt_new 1 1 4 _ (by decide) (by decide) (by decide) (by decide)).mono ?_
  rintro e w1 ⟨b, l, rfl, h1, hU1⟩
  have hb : w.heap.size ≤ w.heap.size := Nat.le_refl _
  have h1 : PortAt w1 w.heap.size b l ⟨1, 4, [EndM.reset 0, EndM.reset 0], [], []⟩ := h1
  go_wp2_with fail
  refine (ev_open_ok 0 [] none 0 0 (i := 0) h1 rfl (by decide) rfl).mono ?_
  rintro e w2 ⟨rfl, hp⟩
  have hU2 := h1.below hp.2 hU1 hb
  have h2 : PortAt w2 w.heap.size b l ⟨1, 4, [⟨[], 1, 0, true, false, false⟩, EndM.reset 0], [], []⟩ := hp.1
  clear h1 hU1 hp
  go_wp2_with fail
  have hD := ev_data_ok 0 [97, 98, 99, 100, 101, 102] (by decide) none 0 0 (i := 0) h2 rfl rfl rfl
  have e1 : putK 4 [] [97, 98, 99, 100, 101, 102] = 4 := rfl
  have hD' : Calls Try.prog 17 #[.pointer (some ⟨b, 0, none⟩), evV 2 0 0 [97, 98, 99, 100, 101, 102] none 0 0] w2 (EvPost w2 w.heap.size b l 4 0 ⟨1, 4, [⟨[97, 98, 99, 100], 1, 0, true, false, false⟩, EndM.reset 0], [], []⟩) := hD
  clear hD
  refine hD'.mono ?_
  rintro e w3 ⟨rfl, hp⟩
  have hU3 := h2.below hp.2 hU2 hb
  have h3 := hp.1
  clear h2 hU2 hp hD' e1
  go_wp2_with fail
  have hA : Calls Try.prog 28 #[.pointer (some ⟨b, 0, none⟩)] w3 (EvPost w3 w.heap.size b l 0 0 ⟨1, 4, [⟨[97, 98, 99, 100], 1, 0, false, false, false⟩, EndM.reset 0], [], []⟩) := pt_accept h3
  refine hA.mono ?_
  rintro e w4 ⟨rfl, hp⟩
  have hU4 := h3.below hp.2 hU3 hb
  have h4 := hp.1
  clear h3 hU3 hp hA
  go_wp2_with fail
  have hT : Calls Try.prog 18 #[.pointer (some ⟨b, 0, none⟩), .int .i64 0, .int .i64 9] w4 (PTakePost w4 w.heap.size b l ⟨1, 4, [⟨[], 1, 0, false, false, false⟩, EndM.reset 0], [], []⟩ [97, 98, 99, 100]) := pt_take 0 9 h4
  refine hT.mono ?_
  rintro e w5 ⟨tv, rfl, hG, hp⟩
  have hU5 := h4.below hp.2 hU4 hb
  have h5 := hp.1
  have hG1 := hG.lt
  have htf : ∀ q, tv.ownBlock = some q → q ∉ l.foot := fun q hq => h4.fresh (hG1 q hq).1
  clear h4 hU4 hp hT
  go_wp2_with fail
  have k5 : Upd [] w5 (w5.alloc (.cells #[.int .u8 120] 5 (1, 2))) := (Upd.refl _ _).alloc _
  have hr5 : Rd (w5.alloc (.cells #[.int .u8 120] 5 (1, 2))) (.slice (some ⟨w5.heap.size, 0, none⟩) 1 1) [120] := rd_lit w5 [120] (1, 2) (by decide)
  have h6 := h5.upd k5 (by simp)
  have hU6 := hU5.trans_same k5
  have hG6 := hG.upd k5 (by simp)
  have hf6 : ∀ q, (Value.slice (some ⟨w5.heap.size, 0, none⟩) 1 1).ownBlock = some q → q ∉ l.foot := fun q hq => h5.fresh (by cases hq; exact Nat.le_refl _)
  have hS : Calls Try.prog 23 #[.pointer (some ⟨b, 0, none⟩), .int .i64 0, .slice (some ⟨w5.heap.size, 0, none⟩) 1 1] _ fun e w' => e = .returned (.int .i64 0) ∧ PPost _ w.heap.size b l ⟨1, 4, [⟨[], 1, 0, false, false, false⟩, EndM.reset 0], [], []⟩ w' := pt_send 0 h6 hr5 (by decide) hf6 (by decide)
  clear hr5 hf6
  refine hS.mono ?_
  rintro e w7 ⟨rfl, l7, h7, hu7, hW7⟩
  have hU7 := h6.below hu7 hU6 hb
  have hG7 := hG6.upd hu7 htf
  have htf7 : ∀ q, tv.ownBlock = some q → q ∉ l7.foot := fun q hq => foot_keep hW7 (htf q hq) (hG6.lt q hq).2
  clear h5 h6 hU5 hU6 hG hG6 htf hS hu7 hW7 k5 hG1
  go_wp2_with fail
  have hE : Calls Try.prog 17 #[.pointer (some ⟨b, 0, none⟩), evV 5 0 1 [] none 0 0] w7 (EvPost w7 w.heap.size b l7 0 0 ⟨1, 4, [⟨[], 1, 1, false, false, false⟩, EndM.reset 0], [], []⟩) := ev_room_ok 1 [] none 0 0 (i := 0) h7 rfl rfl
  refine hE.mono ?_
  rintro e w8 ⟨rfl, hp⟩
  have hU8 := h7.below hp.2 hU7 hb
  have hG8 := hG7.upd hp.2 htf7
  have h8 := hp.1
  clear h7 hU7 hG7 hE hp
  go_wp2_with fail
  have k8 : Upd [] w8 (w8.alloc (.cells #[.int .u8 120, .int .u8 121] 5 (2, 3))) := (Upd.refl _ _).alloc _
  have hr8 : Rd (w8.alloc (.cells #[.int .u8 120, .int .u8 121] 5 (2, 3))) (.slice (some ⟨w8.heap.size, 0, none⟩) 2 2) [120, 121] := rd_lit w8 [120, 121] (2, 3) (by decide)
  have h9 := h8.upd k8 (by simp)
  have hU9 := hU8.trans_same k8
  have hG9 := hG8.upd k8 (by simp)
  have hf9 : ∀ q, (Value.slice (some ⟨w8.heap.size, 0, none⟩) 2 2).ownBlock = some q → q ∉ l7.foot := fun q hq => h8.fresh (by cases hq; exact Nat.le_refl _)
  have hS : Calls Try.prog 23 #[.pointer (some ⟨b, 0, none⟩), .int .i64 0, .slice (some ⟨w8.heap.size, 0, none⟩) 2 2] _ fun e w' => e = .returned (.int .i64 1) ∧ PPost _ w.heap.size b l7 ⟨1, 4, [⟨[], 1, 0, false, false, false⟩, EndM.reset 0], [], [⟨2, 0, strB [120], DestM.zero⟩]⟩ w' := pt_send 0 h9 hr8 (by decide) hf9 (by decide)
  clear hr8 hf9
  refine hS.mono ?_
  rintro e w10 ⟨rfl, l10, h10, hu10, hW10⟩
  have hU10 := h9.below hu10 hU9 hb
  have hG10 := hG9.upd hu10 htf7
  clear h8 h9 hU8 hU9 hG8 hG9 htf7 hS hu10 hW10 k8
  obtain ⟨ta, tc, rfl⟩ := hG10.shape
  have hs : (convert 35 9 (.slice ta 4 tc)).run Try.prog w10 = .ok (.string ⟨#[97, 98, 99, 100]⟩) w10 := run_string_of (P := Try.prog) (Own.rd hG10) 35 5 9 Try.underlying35 Try.underlying5 Try.underlying9
  have hO := pt_outs h10
  clear hG10
  go_wp2_with fail
  refine hO.mono ?_
  rintro e w11 ⟨ov, rfl, hov, hot, l11, h11, hu11, hW11⟩
  have hU11 := h10.below hu11 hU10 hb
  have hN := blk_new' w11 51 #[.int .i64 0, .int .i64 2, .int .i64 0, .string ⟨#[120]⟩, .int .u8 0, .int .u8 0, .int .u8 0, .int .u8 0, .string ⟨#[]⟩, .int .i64 0]
  have k11 : Upd [] w11 (w11.alloc (.cells #[.int .i64 0, .int .i64 2, .int .i64 0, .string ⟨#[120]⟩, .int .u8 0, .int .u8 0, .int .u8 0, .int .u8 0, .string ⟨#[]⟩, .int .i64 0] 51)) := (Upd.refl _ _).alloc _
  have hov2 := hov.upd k11 (by simp)
  have hU12 := hU11.trans_same k11
  have hown : Own (w11.alloc (.cells #[.int .i64 0, .int .i64 2, .int .i64 0, .string ⟨#[120]⟩, .int .u8 0, .int .u8 0, .int .u8 0, .int .u8 0, .string ⟨#[]⟩, .int .i64 0] 51)) w11.heap.size 51 10 (.slice (some ⟨w11.heap.size, 0, none⟩) 1 1) 1 (outsC [⟨2, 0, strB [120], DestM.zero⟩]) :=
    ⟨rfl, Or.inr ⟨w11.heap.size, 0, 1, [], [], rfl, Nat.le_refl _, hN, rfl, by simp, Nat.le_refl _, by decide⟩⟩
  have hSm := sameOuts_ok (os := [⟨2, 0, strB [120], DestM.zero⟩]) hov2 hown rfl
  clear hs hO h10 hov hN k11 hov2 hown hU10 hu11 hW11 hot h11
  go_wp2_with fail
  refine hSm.mono ?_
  rintro e w12 ⟨rfl, k12⟩
  go_wp2_with fail
  go_ret
  exact ⟨rfl, hU12.trans_same k12⟩

end Go.Proofs.Ytnbhgfnjnccakaa
