/- The law PortPlays: the walk. -/
import Derived.Test.YtnbhgfnjnccakaaPlay
import Derived.Test.YtnbhgfnjnccakaaSame15
import Derived.Test.YtnbhgfnjnccakaaAct15
import Derived.Test.YtnbhgfnjnccakaaPort8
import Derived.Deep.DeepCutAuto
import Derived.Deep.CutBlock
namespace Go.Proofs.Ytnbhgfnjnccakaa
open Go Go.RowKit
set_option linter.unusedVariables false

theorem Two.beside {w0 w w1 : World} {b c c2 : Nat} {l l2 : PLay} {L : XLay} {p p1 p2 y : PortM} (T : Two w0 w b l p c L y) (hQ : PortAt w w0.heap.size c2 l2 p2) (hd : ∀ q, q ∈ l.foot → q ∉ l2.foot) (hp : PPost w w0.heap.size b l p1 w1) :
    ∃ l1, Two w0 w1 b l1 p1 c L y ∧ PortAt w1 w0.heap.size c2 l2 p2 ∧ ∀ q, q ∈ l1.foot → q ∉ l2.foot := by
  obtain ⟨l1, T1, hu, hW⟩ := T.port hp
  refine ⟨l1, T1, hQ.upd hu hd, fun q hq hq' => ?_⟩
  rcases hW q hq with h' | h'
  · exact hd q h' hq'
  · have := hQ.lt q hq'; omega

set_option maxHeartbeats 8000000 in
set_option maxRecDepth 100000 in
theorem portPlays_law (w : World) (ci si zi : Int) (a3 : Option Addr) (len3 cap3 : Nat) (h1 : ActRow15 w a3 len3) (hl3 : len3 ≤ 9223372036854775807) :
    Calls Try.prog 12 #[.int .i64 ci, .int .i64 si, .int .i64 zi, .slice a3 len3 cap3] w (Fine w (.bool true)) := by
  obtain ⟨hl104, h1⟩ := h1
  by_cases hbad : ci < 0 ∨ 64 < ci ∨ si < 0 ∨ 64 < si ∨ zi < 1 ∨ 65536 < zi
  · have hN1 := pt_new_bad ci si zi w hbad
    have hN2 := rp_new_bad ci si zi w hbad
    clear h1 hbad
    go_enter Try.func12, Try.ntmps12
    go_wp2_with fail
    refine hN1.mono ?_
    rintro e w' ⟨rfl, rfl⟩
    go_wp2_with fail
    refine hN2.mono ?_
    rintro e w' ⟨rfl, rfl⟩
    go_wp2_with fail
    go_ret
    exact ⟨rfl, Upd.refl _ _⟩
  · obtain ⟨cl, rfl⟩ := Int.eq_ofNat_of_zero_le (show 0 ≤ ci by omega)
    obtain ⟨sv, rfl⟩ := Int.eq_ofNat_of_zero_le (show 0 ≤ si by omega)
    obtain ⟨sz, rfl⟩ := Int.eq_ofNat_of_zero_le (show 0 ≤ zi by omega)
    have hN1 := pt_new cl sv sz w (by omega) (by omega) (by omega) (by omega)
    have hN2 := fun w1 => rp_new cl sv sz w1 (by omega) (by omega) (by omega) (by omega)
    clear hbad
    go_enter Try.func12, Try.ntmps12
    go_wp2_with fail
    refine hN1.mono ?_
    rintro e w1 ⟨b, l, rfl, hp1, k1⟩
    go_wp2_with fail
    refine (hN2 w1).mono ?_
    rintro e w2 ⟨c, L, rfl, hp2, k2⟩
    have T := Two.made hp1 k1 hp2 k2
    have hst : ∃ b' l L p, Value.pointer (some ⟨b, 0, none⟩) = .pointer (some ⟨b', 0, none⟩) ∧ Two w w2 b' l p c L p ∧ (∀ x, x ∈ p.box → x.length ≤ 512) ∧ p.outs.length ≤ 0 := ⟨b, l, L, _, rfl, T, fun x hx => (by cases hx), Nat.zero_le _⟩
    clear hp1 k1 hp2 k2 T hN1 hN2
    go_wp2_with fail
    go_loopw [9, 13] (fun pv iv wr => ∃ i : Nat, i ≤ len3 ∧ iv = .int .i64 i ∧ ∃ b' l L p, pv = .pointer (some ⟨b', 0, none⟩) ∧ Two w wr b' l p c L p ∧ (∀ x, x ∈ p.box → x.length ≤ 512) ∧ p.outs.length ≤ i) (fun _ iv _ => len3 - (intOf iv).toNat)
    case atStart => exact ⟨0, Nat.zero_le _, rfl, hst⟩
    case round =>
      clear hst
      obtain ⟨i, hi, rfl, b', l, L, p, rfl, T, hbx, ho⟩ := hrel
      by_cases hlt : i < len3
      · obtain ⟨x, dn, kd, en, nn, bs, qa, ql, qc, d, rfl, hbs, hA0⟩ := h1 i hlt
        have hA := hA0.upd T.U
        have hAU : ∀ wx, Upd [] w wx → ActAt15 wx (x.add (i * 12)) dn kd en nn bs qa ql qc d := fun wx hu => hA0.upd hu
        obtain ⟨x0, x1, x2, x3, x4, x5, x6, x7, x8, x9, x10, x11⟩ := hA
        clear h1 hA0
        go_wp2_with fail
        refine (among_any dn 15 _ (by decide) (by decide)).mono ?_
        rintro e w' ⟨rfl, rfl⟩
        generalize among dn 15 = ad at *
        go_upto_if 54 with fail
        go_cut [9] (fun s9 wx => ∃ b' l L p, s9 = .pointer (some ⟨b', 0, none⟩) ∧ Two w wx b' l p c L p ∧ (∀ x, x ∈ p.box → x.length ≤ 512) ∧ p.outs.length ≤ i + 1)
        case first =>
          by_cases h14 : ad = 14
          · as_aux_lemma =>
              subst h14
              have hC := pt_clone T.P hbx (by omega)
              clear x0 x1 x2 x3 x4 x5 x6 x7 x8 x9 x10 x11
              go_wp2_with fail
              refine hC.mono ?_
              rintro e w4 ⟨c2, l2, rfl, hQ, hdis, hW, kC⟩
              have T4 : Two w w4 b' l.forget p.forget c L p := ⟨(T.P.upd kC (by simp)).forget, T.Y.upd kC (by simp), fun q hq => T.d q (List.mem_filter.1 hq).1, T.U.trans_same kC⟩
              have hd4 : ∀ q, q ∈ l.forget.foot → q ∉ l2.foot := fun q hq hq' => hdis q hq' hq
              have hdL : ∀ q, q ∈ l2.foot → q ∉ L.foot := fun q hq => by
                rcases hW q hq with h' | h'
                · exact T.d q h'
                · exact T.Y.fresh h'
              have hpo : p.forget.outs = p.outs := rfl
              obtain ⟨s1, s2, p5, hEv⟩ := ev_any p.forget 1 0 0 [] (by simp) none 0 0
              have hE := hEv.P _ _ _ _ T4.P
              have ho5 : p5.outs.length ≤ i := by rw [hEv.outs, hpo]; exact ho
              clear hC hdis hW kC T hEv hpo
              unfold evV at hE
              go_wp2_with fail
              refine hE.mono ?_
              rintro e w5 ⟨rfl, hp⟩
              obtain ⟨l5, T5, hQ5, hd5⟩ := T4.beside hQ hd4 hp
              obtain ⟨_, _, x2, _⟩ := hAU w5 T5.U
              have hT := pt_take en 2 T5.P
              have ho6 : (p5.taken en 2).outs.length ≤ i := by rw [taken_outs]; exact ho5
              clear hE hp T4 hQ hd4
              generalize p5.takeB en 2 = ys at *
              generalize p5.taken en 2 = p6 at *
              go_wp2_with fail
              refine hT.mono ?_
              rintro e w6 ⟨v6, rfl, hv6, hp⟩
              obtain ⟨l6, T6, hQ6, hd6⟩ := T5.beside hQ5 hd5 hp.post
              clear x2
              obtain ⟨_, _, x2, _⟩ := hAU w6 T6.U
              have hK := pt_close en T6.P (by omega)
              have ho7 : (p6.closed en).outs.length ≤ i + 1 := by have := closed_outs (p := p6) en; omega
              clear hT hp T5 hQ5 hd5
              generalize p6.closed en = p7 at *
              generalize p6.closeE en = ce at *
              go_wp2_with fail
              refine hK.mono ?_
              rintro e w7 ⟨rfl, hp⟩
              obtain ⟨l7, T7, hQ7, hd7⟩ := T6.beside hQ6 hd6 hp
              have hPo := pt_post (v := .slice none 0 0) (bs := []) T7.P ⟨none, 0, rfl, Nat.le_refl _, by decide, fun _ => rfl, fun ad had => by cases had⟩ (by omega)
              clear hK hp T6 hQ6 hd6 x2 hAU
              go_wp2_with fail
              refine hPo.mono ?_
              rintro e w8 ⟨rfl, hp⟩
              obtain ⟨l8, T8, hQ8, hd8⟩ := T7.beside hQ7 hd7 hp
              have TQ : Two w w8 c2 l2 p c L p := ⟨hQ8, T8.Y, hdL, T8.U⟩
              clear hPo hp T7 hQ7 hd7 T8 hQ8 hd8
              go_wp2_with fail
              go_meet
              case rel => exact ⟨c2, l2, L, p, rfl, TQ, hbx, by omega⟩
          · as_aux_lemma =>
              have hP := play_ok T hbx (by omega) dn kd en nn bs hbs qa ql qc d
              unfold actV at hP
              clear hAU
              go_wp2_with fail
              refine hP.mono ?_
              rintro e w3 ⟨rfl, l', L', p', T', ⟨q1, q2, q3⟩, G⟩
              have hbx' : ∀ x, x ∈ p'.box → x.length ≤ 512 := fun x hx => by
                rcases q2 x hx with h' | h'
                · exact hbx x h'
                · exact h'
              have ho' : p'.outs.length ≤ i + 1 := by omega
              clear hP q1 q2 q3 G T hbx ho
              go_wp2_with fail
              go_meet
              case rel => exact ⟨b', l', L', p', rfl, T', hbx', ho'⟩
        case rest =>
          obtain ⟨b2, l2, L2, p2, rfl, T2, hbx2, ho2⟩ := hcut
          clear x0 x1 x2 x3 x4 x5 x6 x7 x8 x9 x10 x11 hAU T hbx ho hbs
          have hsm := T2.P.small
          obtain ⟨aoe, cap, hve⟩ := T2.Y.veShape
          go_wp2_with fail
          go_loopw [15] (fun kv wx => ∃ k : Int, -1 ≤ k ∧ k ≤ 9 ∧ kv = .int .i64 k ∧ Upd [] wc wx) (fun kv _ => (10 - intOf kv).toNat)
          case atStart => exact ⟨-1, by decide, by decide, rfl, Upd.refl _ _⟩
          case round =>
            obtain ⟨k, hk1, hk2, rfl, hU⟩ := hrel
            have T3 := T2.up hU
            have b2' := T3.Y.blk.cell (i := 2) rfl
            rw [hve] at b2'
            have hcase : (((p2.ends.length : Int) ≤ 8 ∧ k ≤ p2.ends.length) ∨ (¬ (p2.ends.length : Int) ≤ 8 ∧ k ≤ 8)) ∨ (((p2.ends.length : Int) ≤ 8 ∧ ¬ k ≤ p2.ends.length) ∨ (¬ (p2.ends.length : Int) ≤ 8 ∧ ¬ k ≤ 8)) := by omega
            rcases hcase with (⟨h8, hle⟩ | ⟨h8, hle⟩) | (⟨h8, hle⟩ | ⟨h8, hle⟩)
            · have hS := same15_ok k T3
              have ek : IntKind.i64.wrap (k + 1) = k + 1 := by rw [IntWalk.i64_in _ (by omega)]
              go_wp2_with fail
              refine hS.mono ?_
              rintro e wz ⟨rfl, kz⟩
              have hUz := hU.trans_same kz
              clear hS hU T3 b2' kz
              go_wp2_with fail
              go_roundw
              case rel => exact ⟨k + 1, by omega, by omega, by first | rfl | (rw [ek]), hUz⟩
              case measure => simp [intOf]; omega
            · have hS := same15_ok k T3
              have ek : IntKind.i64.wrap (k + 1) = k + 1 := by rw [IntWalk.i64_in _ (by omega)]
              go_wp2_with fail
              refine hS.mono ?_
              rintro e wz ⟨rfl, kz⟩
              have hUz := hU.trans_same kz
              clear hS hU T3 b2' kz
              go_wp2_with fail
              go_roundw
              case rel => exact ⟨k + 1, by omega, by omega, by first | rfl | (rw [ek]), hUz⟩
              case measure => simp [intOf]; omega
            · have hA1 := pt_used T3.P
              have hA2 := rp_used T3.Y
              go_wp2_with fail
              refine hA1.mono ?_
              rintro e w' ⟨rfl, rfl⟩
              go_wp2_with fail
              refine hA2.mono ?_
              rintro e w' ⟨rfl, rfl⟩
              clear hA1 hA2 b2' hle
              go_wp2_with fail
              go_roundw
              case rel => exact ⟨i + 1, hlt, by go_num, b2, l2, L2, p2, rfl, T3, hbx2, ho2⟩
              case measure => simp [intOf]; omega
            · have hA1 := pt_used T3.P
              have hA2 := rp_used T3.Y
              go_wp2_with fail
              refine hA1.mono ?_
              rintro e w' ⟨rfl, rfl⟩
              go_wp2_with fail
              refine hA2.mono ?_
              rintro e w' ⟨rfl, rfl⟩
              clear hA1 hA2 b2' hle
              go_wp2_with fail
              go_roundw
              case rel => exact ⟨i + 1, hlt, by go_num, b2, l2, L2, p2, rfl, T3, hbx2, ho2⟩
              case measure => simp [intOf]; omega
      · obtain rfl : i = len3 := by omega
        as_aux_lemma =>
          have hO1 := pt_outs T.P
          clear h1 hlt hi
          go_wp2_with fail
          refine hO1.mono ?_
          rintro e w3 ⟨ov, rfl, hov, hot, hp⟩
          obtain ⟨l3, T3, hu3, hW3⟩ := T.port hp
          have hdis : ∀ q, ov.ownBlock = some q → q ∉ L.foot := fun q hq => T.d q (hot q hq).2.2
          have hO2 := rp_outs T3.Y
          clear hO1 hp hu3 hW3 T
          go_wp2_with fail
          refine hO2.mono ?_
          rintro e w4 ⟨ov2, rfl, hov2, hot2, hp⟩
          obtain ⟨L4, T4, hu4, hW4⟩ := T3.ref hp
          have hSo := sameOuts_ok (os := p.outs) (hov.upd hu4 hdis) hov2 rfl
          obtain ⟨ao, co, rfl⟩ := hov.shape
          obtain ⟨ao2, co2, rfl⟩ := hov2.shape
          clear hO2 hp hu4 hW4 T3 hov hot hdis hov2 hot2
          go_wp2_with fail
          refine hSo.mono ?_
          rintro e w5 ⟨rfl, k5⟩
          have T5 : Two w w5 b' l3 { p with outs := [] } c L4 { p with outs := [] } := T4.up k5
          have hO3 := pt_outs T5.P
          clear hSo T4
          go_wp2_with fail
          refine hO3.mono ?_
          rintro e w6 ⟨ov3, rfl, hov3, hot3, hp⟩
          obtain ⟨l6, T6, hu6, hW6⟩ := T5.port hp
          obtain ⟨ao3, co3, rfl⟩ : ∃ ao3 co3, ov3 = .slice ao3 0 co3 := hov3.shape
          have hU6 := T6.U
          clear hO3 hp T5 T6 hov3 hot3 hu6 hW6
          go_wp2_with fail
          refine (port_works _).mono ?_
          rintro e w7 ⟨rfl, k7⟩
          go_wp2_with fail
          go_ret
          exact ⟨rfl, hU6.trans_same k7⟩

end Go.Proofs.Ytnbhgfnjnccakaa
