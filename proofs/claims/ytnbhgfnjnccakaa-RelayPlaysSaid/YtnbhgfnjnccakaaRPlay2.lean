/- The law RelayPlays: the walk (written by gen_rplay2.py). -/
import Derived.Test.YtnbhgfnjnccakaaRPlay1
import Derived.Test.YtnbhgfnjnccakaaAct19
import Derived.Deep.DeepCutAuto
import Derived.Deep.CutBlock
namespace Go.Proofs.Ytnbhgfnjnccakaa
open Go Go.RowKit
set_option linter.unusedVariables false

theorem among10c (k : Int) : among k 10 = 5 ∨ among k 10 = 6 ∨ among k 10 = 7 ∨ among k 10 = 8 ∨ among k 10 = 9 ∨ (0 ≤ among k 10 ∧ among k 10 < 5) := by have := among_range k 10 (by decide); omega

set_option maxHeartbeats 4000000 in
set_option maxRecDepth 100000 in
theorem relayPlays_law (w : World) (sz : Int) (a1 : Option Addr) (len1 cap1 : Nat) (h1 : ActRow19 w a1 len1) (hl1 : len1 ≤ 9223372036854775807) :
    Calls Try.prog 9 #[.int .i64 sz, .slice a1 len1 cap1] w (Fine w (.bool true)) := by
  obtain ⟨hl96, h1⟩ := h1
  have hr := among_range sz 64 (by decide)
  obtain ⟨size, hsz⟩ : ∃ m : Nat, 1 + among sz 64 = m := ⟨(1 + among sz 64).toNat, by omega⟩
  have wsz : IntKind.i64.wrap (1 + among sz 64) = (size : Int) := by rw [IntWalk.i64_in _ (by omega)]; exact hsz
  have hs1 : 1 ≤ size := by omega
  have hs2 : size ≤ 64 := by omega
  go_enter Try.func9, Try.ntmps9
  go_wp2_with fail
  refine (among_any sz 64 _ (by decide) (by decide)).mono ?_
  rintro e w' ⟨rfl, rfl⟩
  go_wp2_with fail
  refine (both_ok size w hs1 (by omega)).mono ?_
  rintro e w1 ⟨b, l, c, L, rfl, T⟩
  have hst : ∃ l L p, Two w w1 b l p c L p ∧ p.outs = [] := ⟨l, L, _, T, rfl⟩
  clear T wsz hr hsz
  go_wp2_with fail
  go_loopw [8] (fun iv wr => ∃ i : Nat, i ≤ len1 ∧ iv = .int .i64 i ∧ ∃ l L p, Two w wr b l p c L p ∧ p.outs = []) (fun iv _ => len1 - (intOf iv).toNat)
  case atStart => exact ⟨0, Nat.zero_le _, rfl, hst⟩
  case round =>
    clear hst
    obtain ⟨i, hi, rfl, l, L, p, T, hem⟩ := hrel
    have hem : p.outs.length = 0 := by rw [hem]; rfl
    by_cases hlt : i < len1
    · obtain ⟨x, dn, av, bv, mn, kd, en, nn, bs, qa, ql, qc, rfl, hbs, hX⟩ := h1 i hlt
      obtain ⟨x0, x1, x2, x3, x4, x5, x6, x7, x8⟩ := hX.upd T.U
      clear h1 hX
      have kA : Upd [] wr (wr.alloc (.cells #[.int .i64 dn, .int .i64 av, .int .i64 bv, .int .i64 mn, .int .i64 kd, .int .i64 en, .int .i64 nn, .string (strB bs), .slice qa ql qc] 81)) := (Upd.refl _ _).alloc _
      have hA2 := blk_new' wr 81 #[.int .i64 dn, .int .i64 av, .int .i64 bv, .int .i64 mn, .int .i64 kd, .int .i64 en, .int .i64 nn, .string (strB bs), .slice qa ql qc]
      have T2 := T.up kA
      have nA := T.P.fresh (q := wr.heap.size) (Nat.le_refl _)
      have nA' := T.Y.fresh (q := wr.heap.size) (Nat.le_refl _)
      go_wp2_with fail
      clear x0 x1 x2 x3 x4 x5 x6 x7 x8 T kA
      generalize wr.heap.size = A at *
      generalize wr.alloc (.cells #[.int .i64 dn, .int .i64 av, .int .i64 bv, .int .i64 mn, .int .i64 kd, .int .i64 en, .int .i64 nn, .string (strB bs), .slice qa ql qc] 81) = w6 at *
      have a0' := hA2.cell (i := 0) rfl
      have a1' := hA2.cell (i := 1) rfl
      have a2' := hA2.cell (i := 2) rfl
      have a3' := hA2.cell (i := 3) rfl
      have a4' := hA2.cell (i := 4) rfl
      have a5' := hA2.cell (i := 5) rfl
      have a6' := hA2.cell (i := 6) rfl
      have a7' := hA2.cell (i := 7) rfl
      have a8' := hA2.cell (i := 8) rfl
      refine (among_any dn 10 _ (by decide) (by decide)).mono ?_
      rintro e w' ⟨rfl, rfl⟩
      have hkd := among10c dn
      generalize among dn 10 = ad at *
      go_upto_block 2 with fail
      go_cut [10] (fun s10 wx => s10 = .bool true ∧ ∃ l L p, Two w wx b l p c L p)
      case first =>
        rcases hkd with rfl | rfl | rfl | rfl | rfl | ⟨hd1, hd2⟩
        · as_aux_lemma =>
            have hP := rl_step av bv mn T2.P (by rw [hem]; show 0 < 100000000000; decide)
            generalize hpp : p.stepped av bv mn = p' at *
            generalize hsa : p.stepA av bv mn = sa at *
            go_wp2_with fail
            refine hP.mono ?_
            rintro e w7 ⟨rfl, hp⟩
            obtain ⟨l7, T7, hu7, hW7⟩ := T2.port hp
            have hA7 := hA2.upd hu7 nA
            clear a0' a1' a2' a3' a4' a5' a6' a7' a8'
            clear hP hp hA2
            have a0' := hA7.cell (i := 0) rfl
            have a1' := hA7.cell (i := 1) rfl
            have a2' := hA7.cell (i := 2) rfl
            have a3' := hA7.cell (i := 3) rfl
            have a4' := hA7.cell (i := 4) rfl
            have a5' := hA7.cell (i := 5) rfl
            have a6' := hA7.cell (i := 6) rfl
            have a7' := hA7.cell (i := 7) rfl
            have a8' := hA7.cell (i := 8) rfl
            have hR := rr_step av bv mn T7.Y (by rw [hem]; show 0 < 100000000000; decide)
            rw [hpp, hsa] at hR
            clear hpp hsa
            obtain ⟨s1, s2, s3⟩ := sa
            go_wp2_with fail
            refine hR.mono ?_
            rintro e w8 ⟨rfl, hp⟩
            obtain ⟨L8, T8, hu8, hW8⟩ := T7.ref hp
            clear hR hp
            go_wp2_with fail
            go_meet
            case rel => exact ⟨by simp, l7, L8, p', T8⟩
        · as_aux_lemma =>
            have hP := rl_step av bv mn T2.P (by rw [hem]; show 0 < 100000000000; decide)
            generalize hpp : p.stepped av bv mn = p' at *
            generalize hsa : p.stepA av bv mn = sa at *
            go_wp2_with fail
            refine hP.mono ?_
            rintro e w7 ⟨rfl, hp⟩
            obtain ⟨l7, T7, hu7, hW7⟩ := T2.port hp
            have hA7 := hA2.upd hu7 nA
            clear a0' a1' a2' a3' a4' a5' a6' a7' a8'
            clear hP hp hA2
            have a0' := hA7.cell (i := 0) rfl
            have a1' := hA7.cell (i := 1) rfl
            have a2' := hA7.cell (i := 2) rfl
            have a3' := hA7.cell (i := 3) rfl
            have a4' := hA7.cell (i := 4) rfl
            have a5' := hA7.cell (i := 5) rfl
            have a6' := hA7.cell (i := 6) rfl
            have a7' := hA7.cell (i := 7) rfl
            have a8' := hA7.cell (i := 8) rfl
            have hR := rr_step av bv mn T7.Y (by rw [hem]; show 0 < 100000000000; decide)
            rw [hpp, hsa] at hR
            clear hpp hsa
            obtain ⟨s1, s2, s3⟩ := sa
            go_wp2_with fail
            refine hR.mono ?_
            rintro e w8 ⟨rfl, hp⟩
            obtain ⟨L8, T8, hu8, hW8⟩ := T7.ref hp
            clear hR hp
            go_wp2_with fail
            go_meet
            case rel => exact ⟨by simp, l7, L8, p', T8⟩
        · as_aux_lemma =>
            have hP := rl_move av bv mn T2.P (by rw [hem]; show 0 < 1000000000000; decide)
            generalize hpp : p.moved av bv mn = p' at *
            generalize hsa : p.moveN av bv mn = s1 at *
            generalize hsb : p.lookedE av bv mn = s2 at *
            go_wp2_with fail
            refine hP.mono ?_
            rintro e w7 ⟨rfl, hp⟩
            obtain ⟨l7, T7, hu7, hW7⟩ := T2.port hp
            have hA7 := hA2.upd hu7 nA
            clear a0' a1' a2' a3' a4' a5' a6' a7' a8'
            clear hP hp hA2
            have a0' := hA7.cell (i := 0) rfl
            have a1' := hA7.cell (i := 1) rfl
            have a2' := hA7.cell (i := 2) rfl
            have a3' := hA7.cell (i := 3) rfl
            have a4' := hA7.cell (i := 4) rfl
            have a5' := hA7.cell (i := 5) rfl
            have a6' := hA7.cell (i := 6) rfl
            have a7' := hA7.cell (i := 7) rfl
            have a8' := hA7.cell (i := 8) rfl
            have hR := rr_move av bv mn T7.Y (by rw [hem]; show 0 < 1000000000000; decide)
            rw [hpp, hsa, hsb] at hR
            clear hpp hsa hsb
            go_wp2_with fail
            refine hR.mono ?_
            rintro e w8 ⟨rfl, hp⟩
            obtain ⟨L8, T8, hu8, hW8⟩ := T7.ref hp
            clear hR hp
            go_wp2_with fail
            go_meet
            case rel => exact ⟨by simp, l7, L8, p', T8⟩
        · as_aux_lemma =>
            have hd : Upd [] w6 w6.drew := (Upd.refl _ _).drew
            have T2d := T2.up hd
            have hAd := hA2.upd hd (by simp)
            have hP := rl_stop av bv T2d.P (by rw [hem]; show 0 < 1000000000000; decide)
            generalize hpp : p.stopped av bv = p' at *
            generalize hsa : p.lookedE av bv 1 = s1 at *
            obtain ⟨C, hC⟩ : ∃ C : World → Prop, C = fun w' => w'.cell? ⟨A, 1, none⟩ = some (.int .i64 av) ∧ w'.cell? ⟨A, 2, none⟩ = some (.int .i64 bv) := ⟨_, rfl⟩
            have hCo : ∀ w', C w' → w'.cell? ⟨A, 1, none⟩ = some (.int .i64 av) ∧ w'.cell? ⟨A, 2, none⟩ = some (.int .i64 bv) := fun w' h => by rw [hC] at h; exact h
            have hC0 : C w6.drew := by rw [hC]; exact ⟨hAd.cell (i := 1) rfl, hAd.cell (i := 2) rfl⟩
            have cc0 : ∀ x : { w' // C w' }, x.1.cell? ⟨A, 1, none⟩ = some (.int .i64 av) := fun y => (hCo _ y.2).1
            have cc1 : ∀ x : { w' // C w' }, x.1.cell? ⟨A, 2, none⟩ = some (.int .i64 bv) := fun y => (hCo _ y.2).2
            haveI : Nonempty { w' // C w' } := ⟨⟨_, hC0⟩⟩
            clear a0' a1' a2' a3' a4' a5' a6' a7' a8'
            go_wp2_with fail
            refine wp_region_fxl C [5, 11] [] [2, 4, 8, 10] rfl (by kernel_rfl) hC0 (fun M => ?_)
            refine wpFx_pure rfl (fun K hK => ?_); go_simp; refine hK _ ?_; clear hK K
            refine wpFx_pure rfl (fun K hK => ?_); go_simp; refine hK _ ?_; clear hK K
            refine wpFx_load rfl rfl (fun K hK => ?_); go_simp; refine hK _ ?_; clear hK K
            refine wpFx_pure rfl (fun K hK => ?_); go_simp; refine hK _ ?_; clear hK K
            refine wpFx_load rfl rfl (fun K hK => ?_); go_simp; refine hK _ ?_; clear hK K
            refine wpFx_es rfl rfl (fun K hK => ?_); go_simp
            refine hP.mono ?_
            rintro e w7 ⟨rfl, hp⟩
            obtain ⟨l7, T7, hu7, hW7⟩ := T2d.port hp
            have hA7 := hAd.upd hu7 nA
            refine hK _ _ (by rw [hC]; exact ⟨hA7.cell (i := 1) rfl, hA7.cell (i := 2) rfl⟩) ?_
            clear hK K
            have hR := rr_stop av bv T7.Y (by rw [hem]; show 0 < 1000000000000; decide)
            rw [hpp, hsa] at hR
            clear hP hp hpp hsa
            refine wpFx_pure rfl (fun K hK => ?_); go_simp; refine hK _ ?_; clear hK K
            refine wpFx_pure rfl (fun K hK => ?_); go_simp; refine hK _ ?_; clear hK K
            refine wpFx_load rfl rfl (fun K hK => ?_); go_simp; refine hK _ ?_; clear hK K
            refine wpFx_pure rfl (fun K hK => ?_); go_simp; refine hK _ ?_; clear hK K
            refine wpFx_load rfl rfl (fun K hK => ?_); go_simp; refine hK _ ?_; clear hK K
            refine wpFx_es rfl rfl (fun K hK => ?_); go_simp
            refine hR.mono ?_
            rintro e w8 ⟨rfl, hp⟩
            obtain ⟨L8, T8, hu8, hW8⟩ := T7.ref hp
            have hA8 := hA7.upd hu8 nA'
            refine hK _ _ (by rw [hC]; exact ⟨hA8.cell (i := 1) rfl, hA8.cell (i := 2) rfl⟩) ?_
            clear hK K hR hp
            refine wpFx_pure rfl (fun K hK => ?_); go_simp; refine hK _ ?_; clear hK K
            refine wpFx_pure rfl (fun K hK => ?_); go_simp; refine hK _ ?_; clear hK K
            refine wpFx_nil ?_
            go_wp2_with fail
            go_meet
            case rel => exact ⟨by simp, l7, L8, p', T8⟩
        · as_aux_lemma =>
            have hd : Upd [] w6 w6.drew := (Upd.refl _ _).drew
            have T2d := T2.up hd
            have hAd := hA2.upd hd (by simp)
            have hP := pt_fin en T2d.P (by rw [hem]; show 0 < 1099511627776; decide)
            generalize hpp : p.fined en = p' at *
            generalize hsa : p.finE en = s1 at *
            obtain ⟨C, hC⟩ : ∃ C : World → Prop, C = fun w' => w'.cell? ⟨A, 5, none⟩ = some (.int .i64 en) := ⟨_, rfl⟩
            have hCo : ∀ w', C w' → w'.cell? ⟨A, 5, none⟩ = some (.int .i64 en) := fun w' h => by rw [hC] at h; exact h
            have hC0 : C w6.drew := by rw [hC]; exact hAd.cell (i := 5) rfl
            have cc0 : ∀ x : { w' // C w' }, x.1.cell? ⟨A, 5, none⟩ = some (.int .i64 en) := fun y => hCo _ y.2
            haveI : Nonempty { w' // C w' } := ⟨⟨_, hC0⟩⟩
            clear a0' a1' a2' a3' a4' a5' a6' a7' a8'
            go_wp2_with fail
            refine wp_region_fxl C [4, 9] [] [3, 8] rfl (by kernel_rfl) hC0 (fun M => ?_)
            refine wpFx_pure rfl (fun K hK => ?_); go_simp; refine hK _ ?_; clear hK K
            refine wpFx_pure rfl (fun K hK => ?_); go_simp; refine hK _ ?_; clear hK K
            refine wpFx_pure rfl (fun K hK => ?_); go_simp; refine hK _ ?_; clear hK K
            refine wpFx_load rfl rfl (fun K hK => ?_); go_simp; refine hK _ ?_; clear hK K
            refine wpFx_es rfl rfl (fun K hK => ?_); go_simp
            refine hP.mono ?_
            rintro e w7 ⟨rfl, hp⟩
            obtain ⟨l7, T7, hu7, hW7⟩ := T2d.port hp
            have hA7 := hAd.upd hu7 nA
            refine hK _ _ (by rw [hC]; exact hA7.cell (i := 5) rfl) ?_
            clear hK K
            have hR := rp_fin en T7.Y (by rw [hem]; show 0 < 1099511627776; decide)
            rw [hpp, hsa] at hR
            clear hP hp hpp hsa
            refine wpFx_pure rfl (fun K hK => ?_); go_simp; refine hK _ ?_; clear hK K
            refine wpFx_pure rfl (fun K hK => ?_); go_simp; refine hK _ ?_; clear hK K
            refine wpFx_pure rfl (fun K hK => ?_); go_simp; refine hK _ ?_; clear hK K
            refine wpFx_load rfl rfl (fun K hK => ?_); go_simp; refine hK _ ?_; clear hK K
            refine wpFx_es rfl rfl (fun K hK => ?_); go_simp
            refine hR.mono ?_
            rintro e w8 ⟨rfl, hp⟩
            obtain ⟨L8, T8, hu8, hW8⟩ := T7.ref hp
            have hA8 := hA7.upd hu8 nA'
            refine hK _ _ (by rw [hC]; exact hA8.cell (i := 5) rfl) ?_
            clear hK K hR hp
            refine wpFx_pure rfl (fun K hK => ?_); go_simp; refine hK _ ?_; clear hK K
            refine wpFx_pure rfl (fun K hK => ?_); go_simp; refine hK _ ?_; clear hK K
            refine wpFx_nil ?_
            go_wp2_with fail
            go_meet
            case rel => exact ⟨by simp, l7, L8, p', T8⟩
        · as_aux_lemma =>
            have z5 : (ad == 5) = false := by simp; omega
            have z6 : (ad == 6) = false := by simp; omega
            have z7 : (ad == 7) = false := by simp; omega
            have z8 : (ad == 8) = false := by simp; omega
            have z9 : (ad == 9) = false := by simp; omega
            have y5 : ¬ ad = 5 := by omega
            have y6 : ¬ ad = 6 := by omega
            have y7 : ¬ ad = 7 := by omega
            have y8 : ¬ ad = 8 := by omega
            have y9 : ¬ ad = 9 := by omega
            clear hd1 hd2
            obtain ⟨s1, s2, p', hEv⟩ := ev_any p kd en nn bs hbs qa ql qc
            have hP := hEv.P _ _ _ _ T2.P
            go_wp2_with fail
            refine hP.mono ?_
            rintro e w7 ⟨rfl, hp⟩
            obtain ⟨l7, T7, hu7, hW7⟩ := T2.port hp
            have hA7 := hA2.upd hu7 nA
            clear a0' a1' a2' a3' a4' a5' a6' a7' a8'
            clear hP hp hA2
            have a0' := hA7.cell (i := 0) rfl
            have a1' := hA7.cell (i := 1) rfl
            have a2' := hA7.cell (i := 2) rfl
            have a3' := hA7.cell (i := 3) rfl
            have a4' := hA7.cell (i := 4) rfl
            have a5' := hA7.cell (i := 5) rfl
            have a6' := hA7.cell (i := 6) rfl
            have a7' := hA7.cell (i := 7) rfl
            have a8' := hA7.cell (i := 8) rfl
            have hR := hEv.R _ _ _ _ T7.Y
            clear hEv
            go_wp2_with fail
            refine hR.mono ?_
            rintro e w8 ⟨rfl, hp⟩
            obtain ⟨L8, T8, hu8, hW8⟩ := T7.ref hp
            clear hR hp
            go_wp2_with fail
            go_meet
            case rel => exact ⟨by simp, l7, L8, p', T8⟩
      case rest =>
        as_aux_lemma =>
          clear a0' a1' a2' a3' a4' a5' a6' a7' a8'
          obtain ⟨rfl, l9, L9, p9, T9⟩ := hcut
          have hSm := same19_ok T9
          go_wp2_with fail
          refine hSm.mono ?_
          rintro e w10 ⟨rfl, k10⟩
          have T10 := T9.up k10
          have hO1 := pt_outs T10.P
          clear hSm
          go_wp2_with fail
          refine hO1.mono ?_
          rintro e w11 ⟨ov, rfl, hov, hot, hp⟩
          obtain ⟨l11, T11, hu11, hW11⟩ := T10.port hp
          have hO2 := rp_outs T11.Y
          have hdis : ∀ q, ov.ownBlock = some q → q ∉ L9.foot := fun q hq => T10.d q (hot q hq).2.2
          clear hO1 hp
          obtain ⟨ao, co, rfl⟩ := hov.shape
          go_wp2_with fail
          refine hO2.mono ?_
          rintro e w12 ⟨ov2, rfl, hov2, hot2, hp⟩
          obtain ⟨L12, T12, hu12, hW12⟩ := T11.ref hp
          have hov' := hov.upd hu12 hdis
          have hSo := sameOuts_ok (os := p9.outs) hov' hov2 rfl
          obtain ⟨ao2, co2, rfl⟩ := hov2.shape
          clear hO2 hp
          go_wp2_with fail
          refine hSo.mono ?_
          rintro e w13 ⟨rfl, k13⟩
          have T13 : Two w w13 b l11 { p9 with outs := [] } c L12 { p9 with outs := [] } := T12.up k13
          go_wp2_with fail
          go_roundw
          case rel => exact ⟨i + 1, hlt, by go_num, l11, L12, _, T13, rfl⟩
          case measure => simp [intOf]; omega
    · obtain rfl : i = len1 := by omega
      have hM := rl_move_nil 0 1 1 wr
      have hS := rl_step_nil 0 1 1 wr
      have hQ := rl_stop_nil 0 1 wr
      go_wp2_with fail
      refine hM.mono ?_
      rintro e w' ⟨rfl, rfl⟩
      go_wp2_with fail
      refine hS.mono ?_
      rintro e w' ⟨rfl, rfl⟩
      go_wp2_with fail
      refine hQ.mono ?_
      rintro e w' ⟨rfl, rfl⟩
      go_wp2_with fail
      refine (relay_works _).mono ?_
      rintro e w9 ⟨rfl, k9⟩
      go_wp2_with fail
      go_ret
      exact ⟨rfl, T.U.trans_same k9⟩

end Go.Proofs.Ytnbhgfnjnccakaa
