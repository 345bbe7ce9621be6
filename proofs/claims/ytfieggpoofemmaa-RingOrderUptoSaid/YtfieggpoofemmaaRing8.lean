/- Bytes taken by pieces are those taken at once: the walk of the law RingPieces. -/
import Derived.Test.YtfieggpoofemmaaBase
import Derived.Deep.LoopGhost
namespace Go.Proofs.Ytfieggpoofemmaa
open Go Go.RowKit
set_option linter.unusedVariables false

/-- A row of ints that came in. -/
def IRow (w : World) (a : Option Addr) (len : Nat) (zs : List Int) : Prop := ∀ i, i < len → ∃ x, a = some x ∧ w.cell? (x.add i) = some (.int .i64 (zs.getD i 0)) ∧ x.block < w.heap.size

/-- What holds at the head of a round: out and s. -/
structure PiecesRel (w : World) (b g b2 g2 G : Nat) (r0 : RingM) (X : List UInt8) (out : Value) (wr : World) : Prop where
  ex : ∃ (ys : List UInt8) (r2 : RingM), ys ++ r2.xs = X ∧ r2.size = r0.size ∧ Own wr w.heap.size 5 1 out ys.length (ys.map byteV) ∧ RingAt wr b2 g2 r2
  r : RingAt wr b g r0
  all : Blk wr G 5 (X.map byteV)
  apart : ∀ k, out.ownBlock = some k → k ∉ [b, g, b2, g2, G]
  upd : Upd [] w wr

theorem slice_of_own {w : World} {base e size n : Nat} {v : Value} {xs : List Value} (h : Own w base e size v n xs) : ∃ ao cap, v = .slice ao n cap := h.shape

set_option maxHeartbeats 1000000 in
set_option maxRecDepth 100000 in
theorem ringPieces_law (w : World) (size gone : Int) (v1 v2 : Value) (c1 c2 : List UInt8) (a4 : Option Addr) (len4 cap4 : Nat) (zs : List Int) (h1 : Rd w v1 c1) (h2 : Rd w v2 c2)
    (h4 : IRow w a4 len4 zs) (hl4 : len4 ≤ 9223372036854775807) :
    Calls Try.prog 5 #[.int .i64 size, v1, .int .i64 gone, v2, .slice a4 len4 cap4] w (Fine w (.bool true)) := by
  have hr := among_range size 4096 (by decide)
  go_enter Try.func5, Try.ntmps5
  go_wp2_with fail
  refine (ring_works _).mono ?_
  rintro e w1 ⟨rfl, hU1⟩
  go_wp2_with fail
  refine (among_any size 4096 _ (by decide) (by decide)).mono ?_
  rintro e w' ⟨rfl, rfl⟩
  generalize among size 4096 = sz at *
  go_wp2_with fail
  refine (ring_new sz _ hr.1 (by omega)).mono ?_
  rintro e w2 ⟨b, g, rfl, hb, hg, h, hU2⟩
  have hU2 := hU1.trans_same hU2
  have hbw : w.heap.size ≤ b := Nat.le_trans hU1.size hb
  have hgw : w.heap.size ≤ g := Nat.le_trans hU1.size hg
  generalize hr0 : RingM.new sz.toNat = r0 at *
  have Hr0 := Lib.hid hr0
  clear hr0 hb hg
  go_wp2_with fail
  refine (ring_put h (h1.upd hU2 (by simp)) (fun hne e => by have := h1.lt hne _ e; omega)).mono ?_
  rintro e w3 ⟨rfl, h3, hU3⟩
  have hU3 := hU2.trans (fun k hk => Or.inr (by simp at hk; omega)) hU3
  clear h
  generalize r0.put c1 = r1 at *
  generalize r0.putN c1 = n1 at *
  go_wp2_with fail
  refine (ring_drop gone h3).mono ?_
  rintro e w4 ⟨rfl, h, hU4⟩
  have hU4 := hU3.trans (fun k hk => Or.inr (by simp at hk; omega)) hU4
  clear h3
  generalize r1.drop gone = r3 at *
  generalize r1.cnt gone = n3 at *
  go_wp2_with fail
  refine (ring_put h (h2.upd hU4 (by simp)) (fun hne e => by have := h2.lt hne _ e; omega)).mono ?_
  rintro e w5 ⟨rfl, h3, hU5⟩
  have hU5 := hU4.trans (fun k hk => Or.inr (by simp at hk; omega)) hU5
  clear h
  generalize r3.put c2 = r4 at *
  generalize r3.putN c2 = n4 at *
  go_wp2_with fail
  refine (ring_clone h3).mono ?_
  rintro e w6 ⟨b2, g2, rfl, hb2, hg2, h6, hU6⟩
  have hlt := h3.lt
  have h3 := h3.upd hU6 (by simp) (by simp)
  have hU6 := hU5.trans_same hU6
  have hw5 := hU5.size
  go_wp2_with fail
  have hfit := h3.fit
  have hsm := h3.small
  have ht := ring_take 65536 h3
  have e1 : r4.peek 65536 = r4.xs := by
    unfold RingM.peek RingM.cnt
    exact List.take_of_length_le (by omega)
  rw [e1] at ht
  clear e1
  have hb2l := h6.lt
  refine ht.mono ?_
  rintro e w7 ⟨G, rfl, hG, hB, h7, hU7⟩
  have h6 := h6.upd hU7 (by simp; omega) (by simp; omega)
  have hU7 := hU6.trans (fun k hk => Or.inr (by simp at hk; omega)) hU7
  have hw6 := hU6.size
  clear ht h3
  generalize hX : r4.xs = X at *
  have HX := Lib.hid hX
  clear hX
  have hsz45 : r4.size = (r4.drop 65536).size := rfl
  have hXl : X.length ≤ 65536 := Nat.le_trans hfit hsm
  have hx4 : r4.xs.length ≤ 65536 := by rw [HX.out]; exact hXl
  have hr5 : (r4.drop 65536).xs.length = 0 := by
    unfold RingM.drop RingM.cnt
    simp
    omega
  generalize r4.drop 65536 = r5 at *
  have Hr5 := Lib.hid hr5
  clear hr5
  go_wp2_with fail
  have hst : PiecesRel w b g b2 g2 G r5 X (.slice (some ⟨w7.heap.size, 0, none⟩) 0 0) (w7.alloc (.cells #[] 5)) := by
    have l7 := h7.lt
    have l6 := h6.lt
    have lG := hB.lt
    refine ⟨⟨[], r4, by rw [List.nil_append]; exact HX.out, ?_, ?_, ?_⟩, ?_, hB.alloc _, ?_, hU7.alloc _⟩
    · exact hsz45
    · exact ⟨rfl, Or.inr ⟨w7.heap.size, 0, 0, [], [], rfl, hU7.size, by simpa using blk_new w7 5 [], rfl, by simp, Nat.le_refl _, by decide⟩⟩
    · exact h6.upd ((Upd.refl [] _).alloc _) (by simp) (by simp)
    · exact h7.upd ((Upd.refl [] _).alloc _) (by simp) (by simp)
    · intro k hk
      simp [Value.ownBlock] at hk
      simp
      omega
  have hbb : b2 ≠ b ∧ b2 ≠ g ∧ g2 ≠ b ∧ g2 ≠ g := by omega
  have hGG : G ≠ b ∧ G ≠ g ∧ G ≠ b2 ∧ G ≠ g2 := by omega
  have hbase : w.heap.size ≤ b2 ∧ w.heap.size ≤ g2 ∧ w.heap.size ≤ b ∧ w.heap.size ≤ g ∧ w.heap.size ≤ G := by omega
  clear h7 h6 hB hU7 hU6 hU5 hU4 hU3 hU2 hU1 hfit hb2l hlt HX hsz45 hG hb2 hg2 hw5 hw6 h1 h2 hr Hr0
  generalize (Value.slice (some ⟨w7.heap.size, 0, none⟩) 0 0) = out0 at *
  generalize w7.alloc (.cells #[] 5) = w8 at *
  go_loopw [15, 16] (fun out i wr => ∃ k : Nat, k ≤ len4 ∧ i = .int .i64 k ∧ PiecesRel w b g b2 g2 G r5 X out wr) (fun _ i _ => len4 - (intOf i).toNat)
  case atStart => exact ⟨0, Nat.zero_le _, rfl, hst⟩
  case round =>
    obtain ⟨k, hk, rfl, hrl⟩ := hrel
    obtain ⟨⟨ys, r2, hys, hsz, hown, hR2⟩, hr, hall, hap, hup⟩ := hrl
    obtain ⟨ao, co, rfl⟩ := hown.shape
    by_cases hlt : k < len4
    · obtain ⟨x, rfl, hcx, hxl⟩ := h4 k hlt
      have hcx : wr.cell? (x.add k) = some (.int .i64 (zs.getD k 0)) := by
        have hblk : (x.add k).block = x.block := by unfold Addr.add; split <;> rfl
        rw [hup.cell (by rw [hblk]; exact hxl) (by simp)]; exact hcx
      have ht := ring_take (zs.getD k 0) hR2
      have hl2 := hR2.lt
      have hlr := hr.lt
      have hlG := hall.lt
      have Hys := Lib.hid hys
      clear hys hst
      go_wp2_with fail
      refine ht.mono ?_
      rintro e wt ⟨G', rfl, hG', hB', hR2', hUt⟩
      have hown := hown.upd hUt (fun g0 hg0 => by have := hap g0 hg0; simp at this ⊢; omega)
      have hr := hr.upd hUt (by simp; omega) (by simp; omega)
      have hall := hall.upd hUt (by simp; omega)
      have hup := hup.trans (fun k hk => Or.inr (by simp at hk; omega)) hUt
      have hUs := hUt.size
      clear hcx ht hR2 hUt
      have hfit2 := hR2'.fit
      have hsm2 := hR2'.small
      go_wp2_with (with_reducible refine wpList_append_gen rfl (.tmp 53) (.tmp 59) 30 30 rfl 5 (.int .u8 0) 1 1 Try.underlying30 Try.info5 rfl w.heap.size ?a1 _ ys.length (ys.map byteV) rfl ?a2 _ (r2.peek (zs.getD k 0)).length ((r2.peek (zs.getD k 0)).map byteV) rfl ?a3 ?a4 ?a5 ?a6)
      case a1 => exact hup.size
      case a2 => exact hown
      case a3 => exact Src.ofSlice _ Try.underlying30 ⟨G', 0, none⟩ _ _ _ (by simp) (fun j u hj => by rw [addr_add, Nat.zero_add]; exact hB'.cell hj) (bytesV_one _)
      case a4 =>
        have h1 := congrArg List.length Hys.out
        have h2 := r2.cnt_le (zs.getD k 0)
        rw [List.length_append] at h1
        rw [RingM.peek_length]
        unfold maxLen; omega
      case a5 =>
        have h1 := congrArg List.length Hys.out
        have h2 := r2.cnt_le (zs.getD k 0)
        rw [List.length_append] at h1
        rw [RingM.peek_length]
        omega
      case a6 =>
        intro v' wa hown' hUa hblk hnil hoff
        have hap' : ∀ q, q ∈ [b, g, b2, g2, G] → q ∉ (Value.slice ao ys.length co).ownBlock.toList := fun q hq hq' => by
          cases hob : (Value.slice ao ys.length co).ownBlock with
          | none => rw [hob] at hq'; cases hq'
          | some q0 =>
            rw [hob] at hq'
            simp at hq'
            subst hq'
            exact hap q hob hq
        have hnew : PiecesRel w b g b2 g2 G r5 X v' wa := by
          refine ⟨⟨ys ++ r2.peek (zs.getD k 0), r2.drop (zs.getD k 0), ?_, hsz, ?_, ?_⟩, ?_, ?_, ?_, ?_⟩
          · rw [← Hys.out, List.append_assoc]
            congr 1
            exact List.take_append_drop _ _
          · rw [List.length_append, List.map_append]; exact hown'
          · exact hR2'.upd hUa (hap' _ (by simp)) (hap' _ (by simp))
          · exact hr.upd hUa (hap' _ (by simp)) (hap' _ (by simp))
          · exact hall.upd hUa (hap' _ (by simp))
          · intro q hq
            rcases hblk q hq with h | h
            · exact hap q h
            · simp; omega
          · exact hup.trans (fun q hq => Or.inr (by
              cases hob : (Value.slice ao ys.length co).ownBlock with
              | none => rw [hob] at hq; cases hq
              | some q0 => rw [hob] at hq; simp at hq; subst hq; exact (hown.lt q hob).1)) hUa
        clear hown' hUa hblk hnil hoff hap' hown hr hall hap hup hR2' hB' Hys hfit2 hsm2 hG' hUs hl2 hlr hlG h4 hxl
        go_wp2_with fail
        go_roundw
        case rel => exact ⟨k + 1, by omega, by go_num, hnew⟩
        case measure => simp [intOf]; omega
    · obtain rfl : k = len4 := by omega
      have Hys := Lib.hid hys
      clear hys hst
      have hl2 := hR2.lt
      have hlr := hr.lt
      have hlG := hall.lt
      go_wp2_with fail
      refine (ring_take 65536 hR2).mono ?_
      rintro e wt ⟨G', rfl, hG', hB', hR2', hUt⟩
      have hfit2 := hR2.fit
      have hsm2 := hR2.small
      have e1 : r2.peek 65536 = r2.xs := by
        unfold RingM.peek RingM.cnt
        exact List.take_of_length_le (by omega)
      have hd2 : (r2.drop 65536).xs.length = 0 := by
        unfold RingM.drop RingM.cnt
        simp
        omega
      rw [e1] at hB'
      rw [e1]
      clear e1
      have hown := hown.upd hUt (fun g0 hg0 => by have := hap g0 hg0; simp at this ⊢; omega)
      have hr := hr.upd hUt (by simp; omega) (by simp; omega)
      have hall := hall.upd hUt (by simp; omega)
      have hup := hup.trans (fun k hk => Or.inr (by simp at hk; omega)) hUt
      clear hR2 hUt
      generalize r2.drop 65536 = r6 at *
      have Hd2 := Lib.hid hd2
      clear hd2
      go_wp2_with (with_reducible refine wpList_append_gen rfl (.tmp 61) (.tmp 63) 30 30 rfl 5 (.int .u8 0) 1 1 Try.underlying30 Try.info5 rfl w.heap.size ?b1 _ ys.length (ys.map byteV) rfl ?b2 _ r2.xs.length (r2.xs.map byteV) rfl ?b3 ?b4 ?b5 ?b6)
      case b1 => exact hup.size
      case b2 => exact hown
      case b3 => exact Src.ofSlice _ Try.underlying30 ⟨G', 0, none⟩ _ _ _ (by simp) (fun j u hj => by rw [addr_add, Nat.zero_add]; exact hB'.cell hj) (bytesV_one _)
      case b4 =>
        have h1 := congrArg List.length Hys.out
        rw [List.length_append] at h1
        unfold maxLen; omega
      case b5 =>
        have h1 := congrArg List.length Hys.out
        rw [List.length_append] at h1
        omega
      case b6 =>
        intro v' wa hown' hUa hblk hnil hoff
        have hap' : ∀ q, q ∈ [b, g, b2, g2, G] → q ∉ (Value.slice ao ys.length co).ownBlock.toList := fun q hq hq' => by
          cases hob : (Value.slice ao ys.length co).ownBlock with
          | none => rw [hob] at hq'; cases hq'
          | some q0 =>
            rw [hob] at hq'
            simp at hq'
            subst hq'
            exact hap q hob hq
        have hro : Rd wa v' X := by
          have := hown'
          rw [← List.length_append, ← List.map_append, Hys.out] at this
          exact this.rd
        have hra : Rd wa (.slice (some ⟨G, 0, none⟩) X.length X.length) X := (hall.upd hUa (hap' _ (by simp))).rd (by omega)
        have hr := hr.upd hUa (hap' _ (by simp)) (hap' _ (by simp))
        have hR2' := hR2'.upd hUa (hap' _ (by simp)) (hap' _ (by simp))
        have hup := hup.trans (fun q hq => Or.inr (by
              cases hob : (Value.slice ao ys.length co).ownBlock with
              | none => rw [hob] at hq; cases hq
              | some q0 => rw [hob] at hq; simp at hq; subst hq; exact (hown.lt q hob).1)) hUa
        have hs := sameBytes_any _ _ _ _ _ hra hro
        have e1 : (X == X) = true := by simp
        rw [e1] at hs
        clear e1
        have hL1 := ring_len hr
        have hL2 := ring_len hR2'
        rw [Hr5.out] at hL1
        rw [Hd2.out] at hL2
        clear hown' hUa hblk hnil hoff hap' hown hall hap hB' Hys hfit2 hsm2 hG' hl2 hlr hlG h4
        go_wp2_with fail
        refine hs.mono ?_
        rintro e w' ⟨rfl, rfl⟩
        go_wp2_with fail
        refine hL1.mono ?_
        rintro e w' ⟨rfl, rfl⟩
        go_wp2_with fail
        refine hL2.mono ?_
        rintro e w' ⟨rfl, rfl⟩
        go_wp2_with fail
        go_ret
        exact ⟨rfl, hup⟩

theorem iRow_of_row {w : World} {a : Option Addr} {len cap : Nat} {zs : List Int}
    (h : (a = none ∧ len = 0 ∧ cap = 0 ∧ zs = []) ∨
      ∃ x, a = some x ∧ len ≤ cap ∧ cap ≤ maxLen ∧ zs.length = cap ∧ (∀ i, i < zs.length → w.cell? (x.add i) = some (.int .i64 (zs.getD i 0))) ∧ ∀ n ∈ zs, (Lit.int .i64 n).wf = true) :
    IRow w a len zs ∧ len ≤ 9223372036854775807 := by
  rcases h with ⟨rfl, rfl, rfl, rfl⟩ | ⟨x, rfl, hlc, hcm, hz, hc, hwf⟩
  · exact ⟨fun i hi => by omega, by omega⟩
  · refine ⟨fun i hi => ⟨x, rfl, hc i (by omega), ?_⟩, by unfold maxLen at hcm; omega⟩
    have := World.block_lt_of_cell? w _ (hc i (by omega))
    have hblk : (x.add i).block = x.block := by unfold Addr.add; split <;> rfl
    rw [hblk] at this
    exact this

end Go.Proofs.Ytfieggpoofemmaa
