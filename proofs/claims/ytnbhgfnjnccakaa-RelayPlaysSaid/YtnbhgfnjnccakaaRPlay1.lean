/- The walk of same (sallyportlaw19), the relay's calls at no port, and the document's relay's Move and Step whatever the numbers. -/
import Derived.Test.YtnbhgfnjnccakaaRR3
import Derived.Test.YtnbhgfnjnccakaaEv
import Derived.Test.YtnbhgfnjnccakaaRelay3
import Derived.Test.YtnbhgfnjnccakaaPortN1
namespace Go.Proofs.Ytnbhgfnjnccakaa
open Go Go.RowKit
set_option linter.unusedVariables false

section
variable {w w1 : World} {base c : Nat} {L : XLay} {p : PortM}

theorem looked_nats {a d most : Int} (h : p.lookedE a d most = 0) : ∃ (i j m : Nat) (x y : EndM), a = i ∧ d = j ∧ most = m ∧ p.ends[i]? = some x ∧ p.ends[j]? = some y ∧ (i : Int) ≠ j ∧ 1 ≤ m := by
  obtain ⟨t1, t2, t3, t4⟩ := lookedE_ok.1 h
  rcases p.at?_cases a with ⟨hn, _⟩ | ⟨i, x, rfl, hx, hax, hil⟩
  · rw [there_f hn] at t1; cases t1
  · rcases p.at?_cases d with ⟨hn, _⟩ | ⟨j, y, rfl, hy, hay, hjl⟩
    · rw [there_f hn] at t2; cases t2
    · obtain ⟨m, rfl⟩ := Int.eq_ofNat_of_zero_le (show 0 ≤ most by omega)
      exact ⟨i, j, m, x, y, rfl, rfl, rfl, hx, hy, t3, by omega⟩

theorem rr_move (a d most : Int) (h : RPortAt w base c L p) (hlen : p.outs.length < 1000000000000) :
    Calls Try.prog 41 #[.pointer (some ⟨c, 0, none⟩), .int .i64 a, .int .i64 d, .int .i64 most] w fun e w' => e = .returned (.tuple #[.int .i64 (p.moveN a d most : Nat), .int .i64 (p.lookedE a d most : Nat)]) ∧ RPost w base c L (p.moved a d most) w' := by
  by_cases h0 : p.lookedE a d most = 0
  · have e1 : p.moveN a d most = p.handN a d most.toNat := if_pos h0
    have e2 : p.moved a d most = p.handed a d most.toNat := if_pos h0
    obtain ⟨i, j, m, x, y, rfl, rfl, rfl, hx, hy, hij, hm⟩ := looked_nats h0
    rw [e1, e2, h0, Int.toNat_natCast]
    exact rr_move_ok h hx hy hij hm hlen
  · have h2 : p.lookedE a d most = 2 := by rcases lookedE_cases (p := p) a d most with q | q; exact absurd q h0; exact q
    have e1 : p.moveN a d most = 0 := if_neg h0
    have e2 : p.moved a d most = p := if_neg h0
    rw [e1, e2, h2]
    refine (rr_move_no h h0).mono ?_
    rintro e w' ⟨rfl, rfl⟩
    exact ⟨rfl, RPost.refl h⟩
theorem rr_step (a d most : Int) (h : RPortAt w base c L p) (hlen : p.outs.length < 100000000000) :
    Calls Try.prog 39 #[.pointer (some ⟨c, 0, none⟩), .int .i64 a, .int .i64 d, .int .i64 most] w fun e w' => e = .returned (.tuple #[.int .i64 ((p.stepA a d most).1 : Nat), .bool (p.stepA a d most).2.1, .int .i64 ((p.stepA a d most).2.2 : Nat)]) ∧ RPost w base c L (p.stepped a d most) w' := by
  by_cases h0 : p.lookedE a d most = 0
  · obtain ⟨i, j, m, x, y, rfl, rfl, rfl, hx, hy, hij, hm⟩ := looked_nats h0
    exact rr_step_ok h hx hy hij hm hlen
  · have e1 : p.stepA a d most = (0, false, 2) := if_neg h0
    have e2 : p.stepped a d most = p := if_neg h0
    rw [e1, e2]
    refine (rr_step_no h h0).mono ?_
    rintro e w' ⟨rfl, rfl⟩
    exact ⟨rfl, RPost.refl h⟩
end

/-! ### No port -/
theorem rl_looked_nil (a d most : Int) (w : World) : Calls Try.prog 75 #[.pointer none, .int .i64 a, .int .i64 d, .int .i64 most] w fun e w' => e = .returned (.int .i64 1) ∧ w = w' := by
  have hs := pn_state a (w := w) (p := .pointer none) (Or.inl rfl)
  go_enter Try.func75, Try.ntmps75
  go_wp2_with fail
  refine hs.mono ?_
  rintro e w' ⟨rfl, rfl⟩
  go_wp2_with fail
  go_ret
  exact ⟨rfl, rfl⟩
theorem rl_move_nil (a d most : Int) (w : World) : Calls Try.prog 40 #[.pointer none, .int .i64 a, .int .i64 d, .int .i64 most] w fun e w' => e = .returned (.tuple #[.int .i64 0, .int .i64 1]) ∧ w = w' := by
  have hs := rl_looked_nil a d most w
  go_enter Try.func40, Try.ntmps40
  go_wp2_with fail
  refine hs.mono ?_
  rintro e w' ⟨rfl, rfl⟩
  go_wp2_with fail
  go_ret2
  exact ⟨rfl, rfl⟩
theorem rl_step_nil (a d most : Int) (w : World) : Calls Try.prog 38 #[.pointer none, .int .i64 a, .int .i64 d, .int .i64 most] w fun e w' => e = .returned (.tuple #[.int .i64 0, .bool false, .int .i64 1]) ∧ w = w' := by
  have hs := rl_looked_nil a d most w
  go_enter Try.func38, Try.ntmps38
  go_wp2_with fail
  refine hs.mono ?_
  rintro e w' ⟨rfl, rfl⟩
  go_wp2_with fail
  go_ret3
  exact ⟨rfl, rfl⟩
theorem rl_stop_nil (a d : Int) (w : World) : Calls Try.prog 42 #[.pointer none, .int .i64 a, .int .i64 d] w fun e w' => e = .returned (.int .i64 1) ∧ w = w' := by
  have hs := rl_looked_nil a d 1 w
  go_enter Try.func42, Try.ntmps42
  go_wp2_with fail
  refine hs.mono ?_
  rintro e w' ⟨rfl, rfl⟩
  go_wp2_with fail
  go_ret
  exact ⟨rfl, rfl⟩

/-! ### same -/
set_option maxHeartbeats 4000000 in
set_option maxRecDepth 100000 in
theorem same19_ok {w0 w : World} {b c : Nat} {l : PLay} {L : XLay} {p : PortM} (T : Two w0 w b l p c L p) :
    Calls Try.prog 46 #[.pointer (some ⟨b, 0, none⟩), .pointer (some ⟨c, 0, none⟩)] w fun e w' => e = .returned (.bool true) ∧ Upd [] w w' := by
  have hsm := T.P.small
  obtain ⟨aoe, cap, hve⟩ := T.Y.veShape
  go_enter Try.func46, Try.ntmps46
  go_wp2_with fail
  go_loopw [5] (fun kv wr => ∃ k : Nat, k ≤ p.ends.length ∧ kv = .int .i64 k ∧ Upd [] w wr) (fun kv _ => p.ends.length - (intOf kv).toNat)
  case atStart => exact ⟨0, Nat.zero_le _, rfl, Upd.refl _ _⟩
  case round =>
    obtain ⟨k, hk, rfl, hU⟩ := hrel
    have T1 := T.up hU
    have b2 := T1.Y.blk.cell (i := 2) rfl
    rw [hve] at b2
    by_cases hlt : k < p.ends.length
    · obtain ⟨x, hx⟩ : ∃ x, p.ends[k]? = some x := ⟨p.ends[k], List.getElem?_eq_getElem hlt⟩
      have hax : p.at? (k : Int) = some x := by rw [PortM.at?_nat]; exact hx
      have hS : Calls Try.prog 25 #[.pointer (some ⟨b, 0, none⟩), .int .i64 k] wr fun e w' => e = .returned (.tuple #[.int .i64 x.st, .int .i64 0]) ∧ wr = w' := by
        have := pt_state (k : Int) T1.P
        have e : p.state k = (x.st, 0) := by unfold PortM.state; rw [hax]
        rw [e] at this
        exact this
      have hd : Upd [] wr wr.drew := (Upd.refl _ _).drew
      have T2 := T1.up hd
      have hW : Calls Try.prog 26 #[.pointer (some ⟨b, 0, none⟩), .int .i64 k] wr.drew fun e w' => e = .returned (.int .i64 (x.xs.length : Nat)) ∧ wr.drew = w' := by
        have := pt_waiting (k : Int) T2.P
        have e : p.waiting k = x.xs.length := by unfold PortM.waiting; rw [hax]
        rw [e] at this
        exact this
      have hR1 := pt_room (k : Int) T2.P
      have hR2 := rp_room (k : Int) T2.Y
      have hE1 := pt_ended (k : Int) T2.P
      have hE2 := rp_ended (k : Int) T2.Y
      obtain ⟨g, off, cap', hv', hg, _⟩ := T2.Y.cells hx
      rw [hve] at hv'
      cases hv'
      obtain ⟨d0, d1, d2, d3, d4, d5, _⟩ := T2.Y.cellsAt hx hve
      have bd := T2.Y.blk.cell (i := 2) rfl
      rw [hve] at bd
      obtain ⟨ra, rc, hrv, hrow⟩ := (T2.Y.rings k x hx).row
      have eadd : (⟨g, off, none⟩ : Addr).add (k * 6) = ⟨g, off + k * 6, none⟩ := addr_add _ _ _
      generalize p.roomOf (k : Int) = rm at *
      generalize p.ended (k : Int) = ed at *
      generalize x.xs.length = ln at *
      generalize hst : x.st = st at *
      obtain ⟨C, hC⟩ : ∃ C : World → Prop, C = fun w' => w'.cell? ⟨c, 2, none⟩ = some (.slice (some ⟨g, off, none⟩) p.ends.length cap) ∧ w'.cell? ⟨g, off + k * 6, none⟩ = some (.int .i64 st) ∧ w'.cell? ⟨g, off + k * 6 + 5, none⟩ = some (.pointer (some ⟨L.rb k, 0, none⟩)) ∧ w'.cell? ⟨L.rb k, 1, none⟩ = some (.slice ra ln rc) := ⟨_, rfl⟩
      have hCo : ∀ w', C w' → w'.cell? ⟨c, 2, none⟩ = some (.slice (some ⟨g, off, none⟩) p.ends.length cap) ∧ w'.cell? ⟨g, off + k * 6, none⟩ = some (.int .i64 st) ∧ w'.cell? ⟨g, off + k * 6 + 5, none⟩ = some (.pointer (some ⟨L.rb k, 0, none⟩)) ∧ w'.cell? ⟨L.rb k, 1, none⟩ = some (.slice ra ln rc) := fun w' h => by rw [hC] at h; exact h
      have hC0 : C wr.drew := by rw [hC]; exact ⟨bd, d0, d5, hrow⟩
      have cc1 : ∀ x : { w' // C w' }, x.1.cell? ⟨c, 2, none⟩ = some (.slice (some ⟨g, off, none⟩) p.ends.length cap) := fun y => (hCo _ y.2).1
      have cc2 : ∀ x : { w' // C w' }, x.1.cell? ⟨g, off + k * 6, none⟩ = some (.int .i64 st) := fun y => (hCo _ y.2).2.1
      have cc3 : ∀ x : { w' // C w' }, x.1.cell? ⟨g, off + k * 6 + 5, none⟩ = some (.pointer (some ⟨L.rb k, 0, none⟩)) := fun y => (hCo _ y.2).2.2.1
      have cc4 : ∀ x : { w' // C w' }, x.1.cell? ⟨L.rb k, 1, none⟩ = some (.slice ra ln rc) := fun y => (hCo _ y.2).2.2.2
      haveI : Nonempty { w' // C w' } := ⟨⟨_, hC0⟩⟩
      clear d0 d1 d2 d3 d4 d5 bd hrow hrv T2 hx hax hst
      go_wp2_with fail
      refine hS.mono ?_
      rintro e w' ⟨rfl, rfl⟩
      go_wp2_with fail
      refine wp_region_fxl C [13, 31, 34, 40, 43] [] [4, 8, 17, 21, 24] rfl (by kernel_rfl) hC0 (fun M => ?_)
      clear hS b2
      refine wpFx_pure rfl (fun K hK => ?_); go_simp; refine hK _ ?_; clear hK K
      refine wpFx_pure rfl (fun K hK => ?_); go_simp; refine hK _ ?_; clear hK K
      refine wpFx_pure rfl (fun K hK => ?_); go_simp; refine hK _ ?_; clear hK K
      refine wpFx_pure rfl (fun K hK => ?_); go_simp; refine hK _ ?_; clear hK K
      refine wpFx_load rfl rfl (fun K hK => ?_); go_simp; refine hK _ ?_; clear hK K
      refine wpFx_pure rfl (fun K hK => ?_); go_simp; refine hK _ ?_; clear hK K
      refine wpFx_pure rfl (fun K hK => ?_); go_simp; refine hK _ ?_; clear hK K
      refine wpFx_pure rfl (fun K hK => ?_); go_simp; refine hK _ ?_; clear hK K
      refine wpFx_load rfl rfl (fun K hK => ?_); go_simp; refine hK _ ?_; clear hK K
      refine wpFx_pure rfl (fun K hK => ?_); go_simp; refine hK _ ?_; clear hK K
      refine wpFx_pure rfl (fun K hK => ?_); go_simp; refine hK _ ?_; clear hK K
      refine wpFx_pure rfl (fun K hK => ?_); go_simp; refine hK _ ?_; clear hK K
      refine wpFx_pure rfl (fun K hK => ?_); go_simp; refine hK _ ?_; clear hK K
      refine wpFx_esg rfl rfl (fun K hK => ?_); go_simp
      refine hW.mono ?_
      rintro e w' ⟨rfl, rfl⟩
      refine hK _ _ hC0 ?_; clear hK K
      refine wpFx_pure rfl (fun K hK => ?_); go_simp; refine hK _ ?_; clear hK K
      refine wpFx_pure rfl (fun K hK => ?_); go_simp; refine hK _ ?_; clear hK K
      refine wpFx_pure rfl (fun K hK => ?_); go_simp; refine hK _ ?_; clear hK K
      refine wpFx_load rfl rfl (fun K hK => ?_); go_simp; refine hK _ ?_; clear hK K
      refine wpFx_pure rfl (fun K hK => ?_); go_simp; refine hK _ ?_; clear hK K
      refine wpFx_pure rfl (fun K hK => ?_); go_simp; refine hK _ ?_; clear hK K
      refine wpFx_pure rfl (fun K hK => ?_); go_simp; refine hK _ ?_; clear hK K
      refine wpFx_load rfl rfl (fun K hK => ?_); go_simp; refine hK _ ?_; clear hK K
      refine wpFx_pure rfl (fun K hK => ?_); go_simp; refine hK _ ?_; clear hK K
      refine wpFx_pure rfl (fun K hK => ?_); go_simp; refine hK _ ?_; clear hK K
      refine wpFx_load rfl rfl (fun K hK => ?_); go_simp; refine hK _ ?_; clear hK K
      refine wpFx_pure rfl (fun K hK => ?_); go_simp; refine hK _ ?_; clear hK K
      refine wpFx_pure rfl (fun K hK => ?_); go_simp; refine hK _ ?_; clear hK K
      refine wpFx_pure rfl (fun K hK => ?_); go_simp; refine hK _ ?_; clear hK K
      refine wpFx_pure rfl (fun K hK => ?_); go_simp; refine hK _ ?_; clear hK K
      refine wpFx_pure rfl (fun K hK => ?_); go_simp; refine hK _ ?_; clear hK K
      refine wpFx_pure rfl (fun K hK => ?_); go_simp; refine hK _ ?_; clear hK K
      refine wpFx_esg rfl rfl (fun K hK => ?_); go_simp
      refine hR1.mono ?_
      rintro e w' ⟨rfl, rfl⟩
      refine hK _ _ hC0 ?_; clear hK K
      refine wpFx_pure rfl (fun K hK => ?_); go_simp; refine hK _ ?_; clear hK K
      refine wpFx_pure rfl (fun K hK => ?_); go_simp; refine hK _ ?_; clear hK K
      refine wpFx_esg rfl rfl (fun K hK => ?_); go_simp
      refine hR2.mono ?_
      rintro e w' ⟨rfl, rfl⟩
      refine hK _ _ hC0 ?_; clear hK K
      refine wpFx_pure rfl (fun K hK => ?_); go_simp; refine hK _ ?_; clear hK K
      refine wpFx_pure rfl (fun K hK => ?_); go_simp; refine hK _ ?_; clear hK K
      refine wpFx_pure rfl (fun K hK => ?_); go_simp; refine hK _ ?_; clear hK K
      refine wpFx_pure rfl (fun K hK => ?_); go_simp; refine hK _ ?_; clear hK K
      refine wpFx_pure rfl (fun K hK => ?_); go_simp; refine hK _ ?_; clear hK K
      refine wpFx_esg rfl rfl (fun K hK => ?_); go_simp
      refine hE1.mono ?_
      rintro e w' ⟨rfl, rfl⟩
      refine hK _ _ hC0 ?_; clear hK K
      refine wpFx_pure rfl (fun K hK => ?_); go_simp; refine hK _ ?_; clear hK K
      refine wpFx_pure rfl (fun K hK => ?_); go_simp; refine hK _ ?_; clear hK K
      refine wpFx_esg rfl rfl (fun K hK => ?_); go_simp
      refine hE2.mono ?_
      rintro e w' ⟨rfl, rfl⟩
      refine hK _ _ hC0 ?_; clear hK K
      refine wpFx_pure rfl (fun K hK => ?_); go_simp; refine hK _ ?_; clear hK K
      refine wpFx_pure rfl (fun K hK => ?_); go_simp; refine hK _ ?_; clear hK K
      refine wpFx_nil ?_
      clear cc1 cc2 cc3 cc4 hC0 hCo hC hW hR1 hR2 hE1 hE2
      go_wp2_with fail
      go_roundw
      case rel => exact ⟨k + 1, hlt, by go_num, hU.trans_same hd⟩
      case measure => simp [intOf]; omega
    · obtain rfl : k = p.ends.length := by omega
      go_wp2_with fail
      go_ret
      exact ⟨rfl, hU⟩

end Go.Proofs.Ytnbhgfnjnccakaa
