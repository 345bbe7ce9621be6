/- The walk of same (sallyportlaw15): both tell the same of an endpoint. -/
import Derived.Test.YtnbhgfnjnccakaaPP5
namespace Go.Proofs.Ytnbhgfnjnccakaa
open Go Go.RowKit
set_option linter.unusedVariables false

set_option maxHeartbeats 4000000 in
set_option maxRecDepth 100000 in
theorem same15_ok {w0 w : World} {b c : Nat} {l : PLay} {L : XLay} {p : PortM} (k : Int) (T : Two w0 w b l p c L p) :
    Calls Try.prog 50 #[.pointer (some ⟨b, 0, none⟩), .pointer (some ⟨c, 0, none⟩), .int .i64 k] w fun e w' => e = .returned (.bool true) ∧ Upd [] w w' := by
  have hsm := T.P.small
  obtain ⟨aoe, cap, hve⟩ := T.Y.veShape
  have b2 := T.Y.blk.cell (i := 2) rfl
  rw [hve] at b2
  have hS0 := pt_state k T.P
  rcases p.at?_cases k with ⟨hn, hk⟩ | ⟨i, x, rfl, hx, hax, hil⟩
  · have e1 : p.state k = (0, 2) := by unfold PortM.state; rw [hn]
    have e2 : p.waiting k = 0 := by unfold PortM.waiting; rw [hn]
    have e3 : p.roomOf k = 0 := by unfold PortM.roomOf; rw [hn]
    have e4 : p.last k = false := by unfold PortM.last; rw [hn]
    have e5 : p.ended k = false := by unfold PortM.ended; rw [e4]; rfl
    have e6 : p.takeB k 9 = [] := by unfold PortM.takeB; rw [hn]
    have hW := pt_waiting k T.P
    have hR := pt_room k T.P
    have hL := pt_last k T.P
    have hE := pt_ended k T.P
    have hP := pt_peek k 9 T.P
    rw [e1] at hS0
    rw [e2] at hW
    rw [e3] at hR
    rw [e4] at hL
    rw [e5] at hE
    rw [e6] at hP
    clear e1 e2 e3 e4 e5 e6 hn T hve
    rcases hk with hk | hk
    · go_enter Try.func50, Try.ntmps50
      go_wp2_with fail
      refine hS0.mono ?_
      rintro e w' ⟨rfl, rfl⟩
      go_wp2_with fail
      refine hW.mono ?_
      rintro e w' ⟨rfl, rfl⟩
      go_wp2_with fail
      refine hR.mono ?_
      rintro e w' ⟨rfl, rfl⟩
      go_wp2_with fail
      refine hL.mono ?_
      rintro e w' ⟨rfl, rfl⟩
      go_wp2_with fail
      refine hE.mono ?_
      rintro e w' ⟨rfl, rfl⟩
      go_wp2_with fail
      refine hP.mono ?_
      rintro e w1 ⟨v, rfl, hv, hu⟩
      obtain ⟨va, vc, rfl⟩ := hv.shape
      go_wp2_with fail
      go_ret
      exact ⟨rfl, hu⟩
    · have hk0 : 0 ≤ k := by omega
      have hk1 : decide (k < (p.ends.length : Int)) = false := decide_eq_false (by omega)
      clear hk
      go_enter Try.func50, Try.ntmps50
      go_wp2_with fail
      refine hS0.mono ?_
      rintro e w' ⟨rfl, rfl⟩
      go_wp2_with fail
      refine hW.mono ?_
      rintro e w' ⟨rfl, rfl⟩
      go_wp2_with fail
      refine hR.mono ?_
      rintro e w' ⟨rfl, rfl⟩
      go_wp2_with fail
      refine hL.mono ?_
      rintro e w' ⟨rfl, rfl⟩
      go_wp2_with fail
      refine hE.mono ?_
      rintro e w' ⟨rfl, rfl⟩
      go_wp2_with fail
      refine hP.mono ?_
      rintro e w1 ⟨v, rfl, hv, hu⟩
      obtain ⟨va, vc, rfl⟩ := hv.shape
      go_wp2_with fail
      go_ret
      exact ⟨rfl, hu⟩
  · have hS : Calls Try.prog 25 #[.pointer (some ⟨b, 0, none⟩), .int .i64 i] w fun e w' => e = .returned (.tuple #[.int .i64 x.st, .int .i64 0]) ∧ w = w' := by
      have e : p.state i = (x.st, 0) := by unfold PortM.state; rw [hax]
      rw [e] at hS0
      exact hS0
    clear hS0
    have hd : Upd [] w w.drew := (Upd.refl _ _).drew
    have T2 := T.up hd
    have hW : Calls Try.prog 26 #[.pointer (some ⟨b, 0, none⟩), .int .i64 i] w.drew fun e w' => e = .returned (.int .i64 (x.xs.length : Nat)) ∧ w.drew = w' := by
      have := pt_waiting (i : Int) T2.P
      have e : p.waiting i = x.xs.length := by unfold PortM.waiting; rw [hax]
      rw [e] at this
      exact this
    have hR1 := pt_room (i : Int) T2.P
    have hR2 := rp_room (i : Int) T2.Y
    have hL1 := pt_last (i : Int) T2.P
    have hL2 := rp_last (i : Int) T2.Y
    have hE1 := pt_ended (i : Int) T2.P
    have hE2 := rp_ended (i : Int) T2.Y
    obtain ⟨g, off, cap', hv', hg, _⟩ := T2.Y.cells hx
    rw [hve] at hv'
    cases hv'
    obtain ⟨d0, d1, d2, d3, d4, d5, _⟩ := T2.Y.cellsAt hx hve
    have bd := T2.Y.blk.cell (i := 2) rfl
    rw [hve] at bd
    obtain ⟨ra, rc, hrv, hrow⟩ := (T2.Y.rings i x hx).row
    have eadd : (⟨g, off, none⟩ : Addr).add (i * 6) = ⟨g, off + i * 6, none⟩ := addr_add _ _ _
    generalize p.roomOf (i : Int) = rm at *
    generalize p.ended (i : Int) = ed at *
    generalize p.last (i : Int) = la at *
    generalize x.xs.length = ln at *
    generalize hst : x.st = st at *
    obtain ⟨C, hC⟩ : ∃ C : World → Prop, C = fun w' => w'.cell? ⟨c, 2, none⟩ = some (.slice (some ⟨g, off, none⟩) p.ends.length cap) ∧ w'.cell? ⟨g, off + i * 6, none⟩ = some (.int .i64 st) ∧ w'.cell? ⟨g, off + i * 6 + 5, none⟩ = some (.pointer (some ⟨L.rb i, 0, none⟩)) ∧ w'.cell? ⟨L.rb i, 1, none⟩ = some (.slice ra ln rc) := ⟨_, rfl⟩
    have hCo : ∀ w', C w' → w'.cell? ⟨c, 2, none⟩ = some (.slice (some ⟨g, off, none⟩) p.ends.length cap) ∧ w'.cell? ⟨g, off + i * 6, none⟩ = some (.int .i64 st) ∧ w'.cell? ⟨g, off + i * 6 + 5, none⟩ = some (.pointer (some ⟨L.rb i, 0, none⟩)) ∧ w'.cell? ⟨L.rb i, 1, none⟩ = some (.slice ra ln rc) := fun w' h => by rw [hC] at h; exact h
    have hC0 : C w.drew := by rw [hC]; exact ⟨bd, d0, d5, hrow⟩
    have cc1 : ∀ x : { w' // C w' }, x.1.cell? ⟨c, 2, none⟩ = some (.slice (some ⟨g, off, none⟩) p.ends.length cap) := fun y => (hCo _ y.2).1
    have cc2 : ∀ x : { w' // C w' }, x.1.cell? ⟨g, off + i * 6, none⟩ = some (.int .i64 st) := fun y => (hCo _ y.2).2.1
    have cc3 : ∀ x : { w' // C w' }, x.1.cell? ⟨g, off + i * 6 + 5, none⟩ = some (.pointer (some ⟨L.rb i, 0, none⟩)) := fun y => (hCo _ y.2).2.2.1
    have cc4 : ∀ x : { w' // C w' }, x.1.cell? ⟨L.rb i, 1, none⟩ = some (.slice ra ln rc) := fun y => (hCo _ y.2).2.2.2
    haveI : Nonempty { w' // C w' } := ⟨⟨_, hC0⟩⟩
    clear d0 d1 d2 d3 d4 d5 bd hrow hrv T2 hx hax hst
    go_enter Try.func50, Try.ntmps50
    go_wp2_with fail
    refine hS.mono ?_
    rintro e w' ⟨rfl, rfl⟩
    go_wp2_with fail
    refine wp_region_fxl C [17, 35, 38, 44, 47, 53, 56] [] [4, 8, 21, 25, 28] rfl (by kernel_rfl) hC0 (fun M => ?_)
    clear hS b2
    refine wpFx_pure rfl (fun K hK => ?_); go_simp; refine hK _ ?_; clear hK K
    refine wpFx_pure rfl (fun K hK => ?_); go_simp; refine hK _ ?_; clear hK K
    refine wpFx_pure rfl (fun K hK => ?_); go_simp; refine hK _ ?_; clear hK K
    refine wpFx_pure rfl (fun K hK => ?_); go_simp; refine hK _ ?_; clear hK K
    refine wpFx_load rfl rfl (fun K hK => ?_); go_simp; refine hK _ ?_; clear hK K
    refine wpFx_pure rfl (fun K hK => ?_); go_simp; refine hK _ ?_; clear hK K
    refine wpFx_pure rfl (fun K hK => ?_); go_simp; refine hK _ ?_; clear hK K
    refine wpFx_pure rfl (fun K hK => ?_); go_simp; refine hK _ ?_; clear hK K
    refine wpFx_load rfl rfl (fun K hK => ?_); go_simp; refine hK _ ?_; clear hK K
    refine wpFx_pure rfl (fun K hK => ?_); go_simp; refine hK _ ?_; clear hK K
    refine wpFx_pure rfl (fun K hK => ?_); go_simp; refine hK _ ?_; clear hK K
    refine wpFx_pure rfl (fun K hK => ?_); go_simp; refine hK _ ?_; clear hK K
    refine wpFx_pure rfl (fun K hK => ?_); go_simp; refine hK _ ?_; clear hK K
    refine wpFx_pure rfl (fun K hK => ?_); go_simp; refine hK _ ?_; clear hK K
    refine wpFx_pure rfl (fun K hK => ?_); go_simp; refine hK _ ?_; clear hK K
    refine wpFx_pure rfl (fun K hK => ?_); go_simp; refine hK _ ?_; clear hK K
    refine wpFx_pure rfl (fun K hK => ?_); go_simp; refine hK _ ?_; clear hK K
    refine wpFx_esg rfl rfl (fun K hK => ?_); go_simp
    refine hW.mono ?_
    rintro e w' ⟨rfl, rfl⟩
    refine hK _ _ hC0 ?_; clear hK K
    refine wpFx_pure rfl (fun K hK => ?_); go_simp; refine hK _ ?_; clear hK K
    refine wpFx_pure rfl (fun K hK => ?_); go_simp; refine hK _ ?_; clear hK K
    refine wpFx_pure rfl (fun K hK => ?_); go_simp; refine hK _ ?_; clear hK K
    refine wpFx_load rfl rfl (fun K hK => ?_); go_simp; refine hK _ ?_; clear hK K
    refine wpFx_pure rfl (fun K hK => ?_); go_simp; refine hK _ ?_; clear hK K
    refine wpFx_pure rfl (fun K hK => ?_); go_simp; refine hK _ ?_; clear hK K
    refine wpFx_pure rfl (fun K hK => ?_); go_simp; refine hK _ ?_; clear hK K
    refine wpFx_load rfl rfl (fun K hK => ?_); go_simp; refine hK _ ?_; clear hK K
    refine wpFx_pure rfl (fun K hK => ?_); go_simp; refine hK _ ?_; clear hK K
    refine wpFx_pure rfl (fun K hK => ?_); go_simp; refine hK _ ?_; clear hK K
    refine wpFx_load rfl rfl (fun K hK => ?_); go_simp; refine hK _ ?_; clear hK K
    refine wpFx_pure rfl (fun K hK => ?_); go_simp; refine hK _ ?_; clear hK K
    refine wpFx_pure rfl (fun K hK => ?_); go_simp; refine hK _ ?_; clear hK K
    refine wpFx_pure rfl (fun K hK => ?_); go_simp; refine hK _ ?_; clear hK K
    refine wpFx_pure rfl (fun K hK => ?_); go_simp; refine hK _ ?_; clear hK K
    refine wpFx_pure rfl (fun K hK => ?_); go_simp; refine hK _ ?_; clear hK K
    refine wpFx_pure rfl (fun K hK => ?_); go_simp; refine hK _ ?_; clear hK K
    refine wpFx_esg rfl rfl (fun K hK => ?_); go_simp
    refine hR1.mono ?_
    rintro e w' ⟨rfl, rfl⟩
    refine hK _ _ hC0 ?_; clear hK K
    refine wpFx_pure rfl (fun K hK => ?_); go_simp; refine hK _ ?_; clear hK K
    refine wpFx_pure rfl (fun K hK => ?_); go_simp; refine hK _ ?_; clear hK K
    refine wpFx_esg rfl rfl (fun K hK => ?_); go_simp
    refine hR2.mono ?_
    rintro e w' ⟨rfl, rfl⟩
    refine hK _ _ hC0 ?_; clear hK K
    refine wpFx_pure rfl (fun K hK => ?_); go_simp; refine hK _ ?_; clear hK K
    refine wpFx_pure rfl (fun K hK => ?_); go_simp; refine hK _ ?_; clear hK K
    refine wpFx_pure rfl (fun K hK => ?_); go_simp; refine hK _ ?_; clear hK K
    refine wpFx_pure rfl (fun K hK => ?_); go_simp; refine hK _ ?_; clear hK K
    refine wpFx_pure rfl (fun K hK => ?_); go_simp; refine hK _ ?_; clear hK K
    refine wpFx_esg rfl rfl (fun K hK => ?_); go_simp
    refine hL1.mono ?_
    rintro e w' ⟨rfl, rfl⟩
    refine hK _ _ hC0 ?_; clear hK K
    refine wpFx_pure rfl (fun K hK => ?_); go_simp; refine hK _ ?_; clear hK K
    refine wpFx_pure rfl (fun K hK => ?_); go_simp; refine hK _ ?_; clear hK K
    refine wpFx_esg rfl rfl (fun K hK => ?_); go_simp
    refine hL2.mono ?_
    rintro e w' ⟨rfl, rfl⟩
    refine hK _ _ hC0 ?_; clear hK K
    refine wpFx_pure rfl (fun K hK => ?_); go_simp; refine hK _ ?_; clear hK K
    refine wpFx_pure rfl (fun K hK => ?_); go_simp; refine hK _ ?_; clear hK K
    refine wpFx_pure rfl (fun K hK => ?_); go_simp; refine hK _ ?_; clear hK K
    refine wpFx_pure rfl (fun K hK => ?_); go_simp; refine hK _ ?_; clear hK K
    refine wpFx_pure rfl (fun K hK => ?_); go_simp; refine hK _ ?_; clear hK K
    refine wpFx_esg rfl rfl (fun K hK => ?_); go_simp
    refine hE1.mono ?_
    rintro e w' ⟨rfl, rfl⟩
    refine hK _ _ hC0 ?_; clear hK K
    refine wpFx_pure rfl (fun K hK => ?_); go_simp; refine hK _ ?_; clear hK K
    refine wpFx_pure rfl (fun K hK => ?_); go_simp; refine hK _ ?_; clear hK K
    refine wpFx_esg rfl rfl (fun K hK => ?_); go_simp
    refine hE2.mono ?_
    rintro e w' ⟨rfl, rfl⟩
    refine hK _ _ hC0 ?_; clear hK K
    refine wpFx_pure rfl (fun K hK => ?_); go_simp; refine hK _ ?_; clear hK K
    refine wpFx_pure rfl (fun K hK => ?_); go_simp; refine hK _ ?_; clear hK K
    refine wpFx_pure rfl (fun K hK => ?_); go_simp; refine hK _ ?_; clear hK K
    refine wpFx_nil ?_
    clear cc1 cc2 cc3 cc4 hC0 hCo hC hW hR1 hR2 hE1 hE2 hL1 hL2
    go_wp2_with fail
    go_ret
    exact ⟨rfl, hd⟩

end Go.Proofs.Ytnbhgfnjnccakaa
