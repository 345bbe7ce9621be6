/- The law PortApart: the walk. -/
import Derived.Test.YtnbhgfnjnccakaaPlay
import Derived.Test.YtnbhgfnjnccakaaAct15
import Derived.Test.YtnbhgfnjnccakaaPort8
import Derived.Deep.DeepCutAuto
import Derived.Deep.CutBlock
namespace Go.Proofs.Ytnbhgfnjnccakaa
open Go Go.RowKit
set_option linter.unusedVariables false

set_option maxHeartbeats 4000000 in
set_option maxRecDepth 100000 in
theorem portApart_law (w : World) (a0 : Option Addr) (len0 cap0 : Nat) (h1 : ActRow15 w a0 len0) (hl1 : len0 ≤ 9223372036854775807) (ek ee en : Int) (es : List UInt8) (hes : es.length ≤ 140737488355328) (ra : Option Addr) (rl rc : Nat) :
    Calls Try.prog 6 #[.slice a0 len0 cap0, .agg #[.int .i64 ek, .int .i64 ee, .int .i64 en, .string (strB es), .slice ra rl rc]] w (Fine w (.bool true)) := by
  obtain ⟨hl104, h1⟩ := h1
  have kX : Upd [] w (w.alloc (.cells #[.int .i64 ek, .int .i64 ee, .int .i64 en, .string (strB es), .slice ra rl rc] 34)) := (Upd.refl _ _).alloc _
  have hX := blk_new' w 34 #[.int .i64 ek, .int .i64 ee, .int .i64 en, .string (strB es), .slice ra rl rc]
  go_enter Try.func6, Try.ntmps6
  go_wp2_with fail
  generalize w.heap.size = X at *
  generalize w.alloc (.cells #[.int .i64 ek, .int .i64 ee, .int .i64 en, .string (strB es), .slice ra rl rc] 34) = wa at *
  refine (port_works wa).mono ?_
  rintro e wb ⟨rfl, kb⟩
  have kwb := kX.trans_same kb
  have hXb := hX.upd kb (by simp)
  have hXlt := hXb.lt
  clear kX kb hX
  go_wp2_with fail
  refine (pt_new 3 2 8 wb (by decide) (by decide) (by decide) (by decide)).mono ?_
  rintro e w1 ⟨b, l, rfl, hp1, k1⟩
  go_wp2_with fail
  refine (rp_new 3 2 8 w1 (by decide) (by decide) (by decide) (by decide)).mono ?_
  rintro e w2 ⟨c, L, rfl, hp2, k2⟩
  have T := Two.made hp1 k1 hp2 k2
  have hst : ∃ l L p, Two wb w2 b l p c L p ∧ (∀ x, x ∈ p.box → x.length ≤ 512) ∧ p.outs.length ≤ 0 ∧ p.ends.length = 5 := ⟨l, L, _, T, fun x hx => (by cases hx), Nat.zero_le _, rfl⟩
  clear hp1 k1 hp2 k2 T
  go_wp2_with fail
  go_loopw [9] (fun iv wr => ∃ i : Nat, i ≤ len0 ∧ iv = .int .i64 i ∧ ∃ l L p, Two wb wr b l p c L p ∧ (∀ x, x ∈ p.box → x.length ≤ 512) ∧ p.outs.length ≤ i ∧ p.ends.length = 5) (fun iv _ => len0 - (intOf iv).toNat)
  case atStart => exact ⟨0, Nat.zero_le _, rfl, hst⟩
  case round =>
    clear hst
    obtain ⟨i, hi, rfl, l, L, p, T, hbx, ho, h5⟩ := hrel
    by_cases hlt : i < len0
    · as_aux_lemma =>
        obtain ⟨x, dn, kd, en', nn, bs, qa, ql, qc, d, rfl, hbs, hA⟩ := h1 i hlt
        obtain ⟨x0, x1, x2, x3, x4, x5, x6, x7, x8, x9, x10, x11⟩ := (hA.upd kwb).upd T.U
        have hP := play_ok T hbx (by omega) dn kd en' nn bs hbs qa ql qc d
        unfold actV at hP
        clear h1 hA hXb
        go_wp2_with fail
        refine hP.mono ?_
        rintro e w3 ⟨rfl, l', L', p', T', ⟨q1, q2, q3⟩, G⟩
        have hbx' : ∀ x, x ∈ p'.box → x.length ≤ 512 := fun x hx => by
          rcases q2 x hx with h' | h'
          · exact hbx x h'
          · exact h'
        have ho' : p'.outs.length ≤ i + 1 := by omega
        have h5' : p'.ends.length = 5 := by omega
        clear hP q1 q2 q3 G T hbx ho h5
        go_wp2_with fail
        go_roundw
        case rel => exact ⟨i + 1, hlt, by go_num, l', L', p', T', hbx', ho', h5'⟩
        case measure => simp [intOf]; omega
    · obtain rfl : i = len0 := by omega
      have hC := pt_clone T.P hbx (by omega)
      clear hlt h1
      go_wp2_with fail
      refine hC.mono ?_
      rintro e w4 ⟨c2, l2, rfl, hQ, hdis, hW, kC⟩
      have hO := (T.P.upd kC (by simp)).forget
      have hU4 := T.U.trans_same kC
      obtain ⟨s1, s2, p', hEv⟩ := ev_any p.forget ek ee en es hes ra rl rc
      have hE := hEv.P _ _ _ _ hO
      have hX4 := hXb.upd hU4 (by simp)
      have x0 := hX4.cell (i := 0) rfl
      have x1 := hX4.cell (i := 1) rfl
      have x2 := hX4.cell (i := 2) rfl
      have x3 := hX4.cell (i := 3) rfl
      have x4 := hX4.cell (i := 4) rfl
      clear hC T hXb
      unfold evV at hE
      go_wp2_with fail
      refine hE.mono ?_
      rintro e w5 ⟨rfl, l5, hP5, hu5, hW5⟩
      have hQ5 := hQ.upd hu5 (fun q hq hq' => hdis q hq' hq)
      have hU5 := hO.below hu5 hU4 (Nat.le_refl _)
      have hd5 : ∀ q, q ∈ l5.foot → q ∉ l2.foot := fun q hq hq' => by
        rcases hW5 q hq with h' | h'
        · exact hdis q hq' h'
        · have := hQ.lt q hq'; omega
      have hX5 : Blk w5 X _ _ := hX4.upd (F := l.forget.foot) hu5 (fun hq => by have := hO.ge X hq; omega)
      clear x0 x1 x2 x3 x4 hE hQ hO hu5 hW5 hU4 hX4 hdis hW kC
      have hat : ∀ k : Int, k ≠ ee → p'.at? k = p.at? k := fun k hk => hEv.rest k hk
      have hou : p'.outs = p.outs := hEv.outs
      clear hEv
      go_wp2_with fail
      go_loopw [11] (fun kv wr => ∃ k : Nat, k ≤ 5 ∧ kv = .int .i64 k ∧ Upd [] w5 wr) (fun kv _ => 5 - (intOf kv).toNat)
      case atStart => exact ⟨0, Nat.zero_le _, rfl, Upd.refl _ _⟩
      case round =>
        obtain ⟨k, hk, rfl, hU⟩ := hrel
        have hP6 := hP5.upd hU (by simp)
        have hQ6 := hQ5.upd hU (by simp)
        have x1 := (hX5.upd hU (by simp)).cell (i := 1) rfl
        by_cases hlt : k < 5
        · as_aux_lemma =>
            have hS1 := pt_state k hP6
            have hS2 := pt_state k hQ6
            by_cases hke : (k : Int) = ee
            · subst hke
              generalize p'.state k = sa at *
              generalize p.state k = sb at *
              obtain ⟨sa1, sa2⟩ := sa
              obtain ⟨sb1, sb2⟩ := sb
              clear hat hou hX5
              go_wp2_with fail
              refine hS1.mono ?_
              rintro e w' ⟨rfl, rfl⟩
              go_wp2_with fail
              refine hS2.mono ?_
              rintro e w' ⟨rfl, rfl⟩
              clear hS1 hS2
              go_wp2_with fail
              go_roundw
              case rel => exact ⟨k + 1, hlt, by go_num, hU⟩
              case measure => simp [intOf]; omega
            · have ha := hat k hke
              have e1 : p'.state k = p.state k := by unfold PortM.state; rw [ha]
              have e2 : p'.roomOf k = p.roomOf k := by unfold PortM.roomOf; rw [ha]
              have e3 : p'.ended k = p.ended k := by unfold PortM.ended PortM.last PortM.waiting; rw [ha]
              have e4 : p'.takeB k 9 = p.takeB k 9 := by unfold PortM.takeB; rw [ha]
              have hR1 := pt_room k hP6
              have hR2 := pt_room k hQ6
              have hE1 := pt_ended k hP6
              have hE2 := pt_ended k hQ6
              have hK1 := pt_peek k 9 hP6
              rw [e1] at hS1
              rw [e2] at hR1
              rw [e3] at hE1
              rw [e4] at hK1
              clear e1 e2 e3 e4 ha hat hou hX5
              generalize p.state k = sa at *
              generalize p.roomOf k = rm at *
              generalize p.ended k = ed at *
              generalize htk : p.takeB k 9 = ys at *
              obtain ⟨sa1, sa2⟩ := sa
              go_wp2_with fail
              refine hS1.mono ?_
              rintro e w' ⟨rfl, rfl⟩
              go_wp2_with fail
              refine hS2.mono ?_
              rintro e w' ⟨rfl, rfl⟩
              go_wp2_with fail
              refine hR1.mono ?_
              rintro e w' ⟨rfl, rfl⟩
              go_wp2_with fail
              refine hR2.mono ?_
              rintro e w' ⟨rfl, rfl⟩
              go_wp2_with fail
              refine hE1.mono ?_
              rintro e w' ⟨rfl, rfl⟩
              go_wp2_with fail
              refine hE2.mono ?_
              rintro e w' ⟨rfl, rfl⟩
              go_wp2_with fail
              refine hK1.mono ?_
              rintro e w7 ⟨v1, rfl, hv1, k7⟩
              have hK2 := pt_peek k 9 (hQ6.upd k7 (by simp))
              rw [htk] at hK2
              clear hS1 hS2 hR1 hR2 hE1 hE2 hK1 htk
              go_wp2_with fail
              refine hK2.mono ?_
              rintro e w8 ⟨v2, rfl, hv2, k8⟩
              have hv1' := hv1.upd k8 (by simp)
              have hS := sameBytes_any _ _ _ _ w8 (Own.rd hv1') (Own.rd hv2)
              simp only [beq_self_eq_true] at hS
              have hU8 := (hU.trans_same k7).trans_same k8
              clear hK2 hU
              go_wp2_with fail
              refine hS.mono ?_
              rintro e w' ⟨rfl, rfl⟩
              clear hS
              go_wp2_with fail
              go_roundw
              case rel => exact ⟨k + 1, hlt, by go_num, hU8⟩
              case measure => simp [intOf]; omega
        · obtain rfl : k = 5 := by omega
          have hO1 := pt_outs hP6
          clear hX5 x1 hat hP5 hQ5
          go_wp2_with fail
          refine hO1.mono ?_
          rintro e w7 ⟨ov, rfl, hov, hot, hp⟩
          obtain ⟨l7, hP7, hu7, hW7⟩ := hp
          have hQ7 := hQ6.upd hu7 (fun q hq => hd5 q hq)
          have hU7 := hP6.below hu7 (hU5.trans_same hU) (Nat.le_refl _)
          have hO2 := pt_outs hQ7
          clear hO1
          go_wp2_with fail
          refine hO2.mono ?_
          rintro e w8 ⟨ov2, rfl, hov2, hot2, hp⟩
          obtain ⟨l8, hP8, hu8, hW8⟩ := hp
          have hov' := hov.upd hu8 (fun q hq => hd5 q (hot q hq).2.2)
          have hU8 := hQ7.below hu8 hU7 (Nat.le_refl _)
          rw [hou] at hov'
          have hSo := sameOuts_ok (os := p.outs) hov' hov2 rfl
          obtain ⟨ao, co, rfl⟩ := hov'.shape
          obtain ⟨ao2, co2, rfl⟩ := hov2.shape
          clear hO2
          go_wp2_with fail
          refine hSo.mono ?_
          rintro e w9 ⟨rfl, k9⟩
          go_wp2_with fail
          go_ret
          exact ⟨rfl, kwb.trans_same (hU8.trans_same k9)⟩

end Go.Proofs.Ytnbhgfnjnccakaa
