/- The walks of the document's relay's Move and Step. -/
import Derived.Test.YtnbhgfnjnccakaaRR1
import Derived.Test.YtnbhgfnjnccakaaRef3
import Derived.Deep.DeepCutAuto
namespace Go.Proofs.Ytnbhgfnjnccakaa
open Go Go.RowKit
set_option linter.unusedVariables false

section
variable {w w1 : World} {base c : Nat} {L : XLay} {p : PortM}

/-- What Take leaves: what it hands on lies apart from the port. -/
def RTakeP2 (w : World) (base c : Nat) (L : XLay) (p' : PortM) (ys : List UInt8) (e : Ending) (w' : World) : Prop :=
  ∃ v L', e = .returned v ∧ GivenB w w' v ys ∧ RPortAt w' base c L' p' ∧ Upd L.foot w w' ∧ Within w L'.foot L.foot ∧ ∀ q, v.ownBlock = some q → q ∉ L'.foot

theorem rp_take2 {i : Nat} {x : EndM} (n : Int) (h : RPortAt w base c L p) (hx : p.ends[i]? = some x) : Calls Try.prog 67 #[.pointer (some ⟨c, 0, none⟩), .int .i64 i, .int .i64 n] w (RTakeP2 w base c L (p.taken i n) (p.takeB i n)) := by
  have hax : p.at? (i : Int) = some x := by rw [PortM.at?_nat]; exact hx
  have hil := (List.getElem?_eq_some_iff.1 hx).1
  have e1 : p.takeB i n = x.xs.take n.toNat := by unfold PortM.takeB; rw [hax]
  have e2 : p.taken i n = p.setEnd i { x with xs := x.xs.drop n.toNat } := by unfold PortM.taken; rw [hax, Int.toNat_natCast]
  have hf := rp_stream_t h hx
  obtain ⟨g, off, cap, hv, hg, c0, c1, c2, c3, c4, c5, hfz⟩ := h.cells hx
  have b2 := h.blk.cell (i := 2) rfl
  rw [hv] at b2
  have hsm := h.small
  have eadd : (⟨g, off, none⟩ : Addr).add (i * 6) = ⟨g, off + i * 6, none⟩ := addr_add _ _ _
  obtain ⟨r, hr0, hrx, hrs⟩ := h.rings i x hx
  have hr := ref_take2 n hr0
  have hrb := (h.tr i hil).1
  clear hfz c0 c1 c2 c3 c4
  go_enter Try.func67, Try.ntmps67
  go_wp2_with fail
  refine hf.mono ?_
  rintro e w' ⟨rfl, rfl⟩
  go_wp2_with fail
  refine hr.mono ?_
  rintro e w2 ⟨u, w1, v', rfl, hU0, hG, hR, hbk, hU⟩
  have hRH : RefHas w2 base (L.rb i) v' p.size (x.xs.drop n.toNat) := ⟨_, hR, by rw [drop_cnt, hrx], hrs⟩
  have h1 := h.upd hU0 (by simp)
  obtain ⟨L', hP, hUp, hW⟩ := h1.ring hx (hU.mono (by simp)) hRH (fun q hq => Or.inr (hbk q hq))
  have hgl := hG.lt
  have hG2 : GivenB w w2 u (x.xs.take n.toNat) := by
    have e : r.peek n = x.xs.take n.toNat := by rw [take_cnt, hrx]
    rw [e] at hG
    exact hG.upd hU (fun q hq hq' => by simp at hq'; subst hq'; have := (hgl _ hq).1; have := h.lt _ hrb.2.2; omega)
  have hout : ∀ q, u.ownBlock = some q → q ∉ L'.foot := fun q hq hq' => by
    have := hgl q hq
    rcases hW q hq' with h' | h'
    · have := h.lt q h'; omega
    · omega
  go_wp2_with fail
  go_ret
  exact ⟨_, L', rfl, by rw [e1]; exact hG2, by rw [e2]; exact hP, (hU0.mono (by simp)).trans_same hUp, fun q hq => (hW q hq).imp id (fun h => Nat.le_trans hU0.size h), hout⟩

set_option maxHeartbeats 4000000 in
set_option maxRecDepth 100000 in
theorem rr_move_ok {i j m : Nat} {x y : EndM} (h : RPortAt w base c L p) (hx : p.ends[i]? = some x) (hy : p.ends[j]? = some y) (hij : (i : Int) ≠ j) (hm : 1 ≤ m) (hlen : p.outs.length < 1000000000000) :
    Calls Try.prog 41 #[.pointer (some ⟨c, 0, none⟩), .int .i64 i, .int .i64 j, .int .i64 m] w fun e w' => e = .returned (.tuple #[.int .i64 (p.handN i j m : Nat), .int .i64 0]) ∧ RPost w base c L (p.handed i j m) w' := by
  have hax : p.at? (i : Int) = some x := by rw [PortM.at?_nat]; exact hx
  have hay : p.at? (j : Int) = some y := by rw [PortM.at?_nat]; exact hy
  have hil := (List.getElem?_eq_some_iff.1 hx).1
  have hjl := (List.getElem?_eq_some_iff.1 hy).1
  have hT := rr_there_yes h (there_t hx) (there_t hy) hij
  have hN : p.handN i j m = min (min m x.xs.length) (p.roomOf j) := handN_eq hax m
  have hh2 := hand2_eq (t := (j : Int)) hax m
  have hfit := (h.rings i x hx).fit
  generalize hNe : p.handN i j m = N at *
  go_enter Try.func41, Try.ntmps41
  go_wp2_with fail
  refine hT.mono ?_
  rintro e w' ⟨rfl, rfl⟩
  clear hT
  go_upto_region 3 with fail
  go_cut [10] (fun s wx => s = .int .i64 (N : Nat) ∧ Upd [] w wx)
  case first =>
    have hd : Upd [] w w.drew := (Upd.refl _ _).drew
    have h2 := h.upd hd (by simp)
    obtain ⟨g, off, cap, hv, hg, _⟩ := h2.cells hx
    obtain ⟨d0, d1, d2, d3, d4, d5, _⟩ := h2.cellsAt hx hv
    have bd := h2.blk.cell (i := 2) rfl
    rw [hv] at bd
    have hsm := h.small
    have eadd : (⟨g, off, none⟩ : Addr).add (i * 6) = ⟨g, off + i * 6, none⟩ := addr_add _ _ _
    obtain ⟨ra, rc, hrv, hrow⟩ := (h2.rings i x hx).row
    have hRm := rp_room (j : Int) h2
    generalize p.roomOf (j : Int) = rm at *
    generalize x.xs.length = ln at *
    obtain ⟨C, hC⟩ : ∃ C : World → Prop, C = fun w' => w'.cell? ⟨c, 2, none⟩ = some (.slice (some ⟨g, off, none⟩) p.ends.length cap) ∧ w'.cell? ⟨g, off + i * 6 + 5, none⟩ = some (.pointer (some ⟨L.rb i, 0, none⟩)) ∧ w'.cell? ⟨L.rb i, 1, none⟩ = some (.slice ra ln rc) := ⟨_, rfl⟩
    have hCo : ∀ w', C w' → w'.cell? ⟨c, 2, none⟩ = some (.slice (some ⟨g, off, none⟩) p.ends.length cap) ∧ w'.cell? ⟨g, off + i * 6 + 5, none⟩ = some (.pointer (some ⟨L.rb i, 0, none⟩)) ∧ w'.cell? ⟨L.rb i, 1, none⟩ = some (.slice ra ln rc) := fun w' h => by rw [hC] at h; exact h
    have hC0 : C w.drew := by rw [hC]; exact ⟨bd, d5, hrow⟩
    have cc1 : ∀ x : { w' // C w' }, x.1.cell? ⟨c, 2, none⟩ = some (.slice (some ⟨g, off, none⟩) p.ends.length cap) := fun y => (hCo _ y.2).1
    have cc2 : ∀ x : { w' // C w' }, x.1.cell? ⟨g, off + i * 6 + 5, none⟩ = some (.pointer (some ⟨L.rb i, 0, none⟩)) := fun y => (hCo _ y.2).2.1
    have cc3 : ∀ x : { w' // C w' }, x.1.cell? ⟨L.rb i, 1, none⟩ = some (.slice ra ln rc) := fun y => (hCo _ y.2).2.2
    haveI : Nonempty { w' // C w' } := ⟨⟨_, hC0⟩⟩
    clear d0 d1 d2 d3 d4 d5 bd hrow hrv hh2
    by_cases q1 : ln < m
    · by_cases q2 : rm < ln
      · obtain rfl : N = rm := by omega
        clear hN hNe
        go_wp2_with fail
        refine wp_region_fxl C [15] [] [4, 8, 11] rfl (by kernel_rfl) hC0 (fun M => ?_)
        refine wpFx_pure rfl (fun K hK => ?_); go_simp; refine hK _ ?_; clear hK K
        refine wpFx_pure rfl (fun K hK => ?_); go_simp; refine hK _ ?_; clear hK K
        refine wpFx_pure rfl (fun K hK => ?_); go_simp; refine hK _ ?_; clear hK K
        refine wpFx_pure rfl (fun K hK => ?_); go_simp; refine hK _ ?_; clear hK K
        refine wpFx_load rfl rfl (fun K hK => ?_); go_simp; refine hK _ ?_; clear hK K
        refine wpFx_pure rfl (fun K hK => ?_); go_simp; refine hK _ ?_; clear hK K
        refine wpFx_pure rfl (fun K hK => ?_); go_simp; refine hK _ ?_; clear hK K
        refine wpFx_pure rfl (fun K hK => ?_); go_simp; refine hK _ ?_; clear hK K
        refine wpFx_load rfl rfl (fun K hK => ?_); go_simp; refine hK _ ?_; clear hK K
        refine wpFx_pure rfl (fun K hK => ?_); go_simp; refine hK _ ?_; clear hK K
        refine wpFx_pure rfl (fun K hK => ?_); go_simp; refine hK _ ?_; clear hK K
        refine wpFx_load rfl rfl (fun K hK => ?_); go_simp; refine hK _ ?_; clear hK K
        refine wpFx_pure rfl (fun K hK => ?_); go_simp; refine hK _ ?_; clear hK K
        refine wpFx_pure rfl (fun K hK => ?_); go_simp; refine hK _ ?_; clear hK K
        refine wpFx_pure rfl (fun K hK => ?_); go_simp; refine hK _ ?_; clear hK K
        refine wpFx_es rfl rfl (fun K hK => ?_); go_simp
        refine hRm.mono ?_
        rintro e w' ⟨rfl, rfl⟩
        refine hK _ _ hC0 ?_; clear hK K
        refine wpFx_pure rfl (fun K hK => ?_); go_simp; refine hK _ ?_; clear hK K
        refine wpFx_pure rfl (fun K hK => ?_); go_simp; refine hK _ ?_; clear hK K
        refine wpFx_nil ?_
        go_wp2_with fail
        go_meet
        case rel => exact ⟨rfl, hd⟩
      · obtain rfl : N = ln := by omega
        clear hN hNe
        go_wp2_with fail
        refine wp_region_fxl C [15] [] [4, 8, 11] rfl (by kernel_rfl) hC0 (fun M => ?_)
        refine wpFx_pure rfl (fun K hK => ?_); go_simp; refine hK _ ?_; clear hK K
        refine wpFx_pure rfl (fun K hK => ?_); go_simp; refine hK _ ?_; clear hK K
        refine wpFx_pure rfl (fun K hK => ?_); go_simp; refine hK _ ?_; clear hK K
        refine wpFx_pure rfl (fun K hK => ?_); go_simp; refine hK _ ?_; clear hK K
        refine wpFx_load rfl rfl (fun K hK => ?_); go_simp; refine hK _ ?_; clear hK K
        refine wpFx_pure rfl (fun K hK => ?_); go_simp; refine hK _ ?_; clear hK K
        refine wpFx_pure rfl (fun K hK => ?_); go_simp; refine hK _ ?_; clear hK K
        refine wpFx_pure rfl (fun K hK => ?_); go_simp; refine hK _ ?_; clear hK K
        refine wpFx_load rfl rfl (fun K hK => ?_); go_simp; refine hK _ ?_; clear hK K
        refine wpFx_pure rfl (fun K hK => ?_); go_simp; refine hK _ ?_; clear hK K
        refine wpFx_pure rfl (fun K hK => ?_); go_simp; refine hK _ ?_; clear hK K
        refine wpFx_load rfl rfl (fun K hK => ?_); go_simp; refine hK _ ?_; clear hK K
        refine wpFx_pure rfl (fun K hK => ?_); go_simp; refine hK _ ?_; clear hK K
        refine wpFx_pure rfl (fun K hK => ?_); go_simp; refine hK _ ?_; clear hK K
        refine wpFx_pure rfl (fun K hK => ?_); go_simp; refine hK _ ?_; clear hK K
        refine wpFx_es rfl rfl (fun K hK => ?_); go_simp
        refine hRm.mono ?_
        rintro e w' ⟨rfl, rfl⟩
        refine hK _ _ hC0 ?_; clear hK K
        refine wpFx_pure rfl (fun K hK => ?_); go_simp; refine hK _ ?_; clear hK K
        refine wpFx_pure rfl (fun K hK => ?_); go_simp; refine hK _ ?_; clear hK K
        refine wpFx_nil ?_
        go_wp2_with fail
        go_meet
        case rel => exact ⟨rfl, hd⟩
    · by_cases q2 : rm < m
      · obtain rfl : N = rm := by omega
        clear hN hNe
        go_wp2_with fail
        refine wp_region_fxl C [15] [] [4, 8, 11] rfl (by kernel_rfl) hC0 (fun M => ?_)
        refine wpFx_pure rfl (fun K hK => ?_); go_simp; refine hK _ ?_; clear hK K
        refine wpFx_pure rfl (fun K hK => ?_); go_simp; refine hK _ ?_; clear hK K
        refine wpFx_pure rfl (fun K hK => ?_); go_simp; refine hK _ ?_; clear hK K
        refine wpFx_pure rfl (fun K hK => ?_); go_simp; refine hK _ ?_; clear hK K
        refine wpFx_load rfl rfl (fun K hK => ?_); go_simp; refine hK _ ?_; clear hK K
        refine wpFx_pure rfl (fun K hK => ?_); go_simp; refine hK _ ?_; clear hK K
        refine wpFx_pure rfl (fun K hK => ?_); go_simp; refine hK _ ?_; clear hK K
        refine wpFx_pure rfl (fun K hK => ?_); go_simp; refine hK _ ?_; clear hK K
        refine wpFx_load rfl rfl (fun K hK => ?_); go_simp; refine hK _ ?_; clear hK K
        refine wpFx_pure rfl (fun K hK => ?_); go_simp; refine hK _ ?_; clear hK K
        refine wpFx_pure rfl (fun K hK => ?_); go_simp; refine hK _ ?_; clear hK K
        refine wpFx_load rfl rfl (fun K hK => ?_); go_simp; refine hK _ ?_; clear hK K
        refine wpFx_pure rfl (fun K hK => ?_); go_simp; refine hK _ ?_; clear hK K
        refine wpFx_pure rfl (fun K hK => ?_); go_simp; refine hK _ ?_; clear hK K
        refine wpFx_pure rfl (fun K hK => ?_); go_simp; refine hK _ ?_; clear hK K
        refine wpFx_es rfl rfl (fun K hK => ?_); go_simp
        refine hRm.mono ?_
        rintro e w' ⟨rfl, rfl⟩
        refine hK _ _ hC0 ?_; clear hK K
        refine wpFx_pure rfl (fun K hK => ?_); go_simp; refine hK _ ?_; clear hK K
        refine wpFx_pure rfl (fun K hK => ?_); go_simp; refine hK _ ?_; clear hK K
        refine wpFx_nil ?_
        go_wp2_with fail
        go_meet
        case rel => exact ⟨rfl, hd⟩
      · obtain rfl : N = m := by omega
        clear hN hNe
        go_wp2_with fail
        refine wp_region_fxl C [15] [] [4, 8, 11] rfl (by kernel_rfl) hC0 (fun M => ?_)
        refine wpFx_pure rfl (fun K hK => ?_); go_simp; refine hK _ ?_; clear hK K
        refine wpFx_pure rfl (fun K hK => ?_); go_simp; refine hK _ ?_; clear hK K
        refine wpFx_pure rfl (fun K hK => ?_); go_simp; refine hK _ ?_; clear hK K
        refine wpFx_pure rfl (fun K hK => ?_); go_simp; refine hK _ ?_; clear hK K
        refine wpFx_load rfl rfl (fun K hK => ?_); go_simp; refine hK _ ?_; clear hK K
        refine wpFx_pure rfl (fun K hK => ?_); go_simp; refine hK _ ?_; clear hK K
        refine wpFx_pure rfl (fun K hK => ?_); go_simp; refine hK _ ?_; clear hK K
        refine wpFx_pure rfl (fun K hK => ?_); go_simp; refine hK _ ?_; clear hK K
        refine wpFx_load rfl rfl (fun K hK => ?_); go_simp; refine hK _ ?_; clear hK K
        refine wpFx_pure rfl (fun K hK => ?_); go_simp; refine hK _ ?_; clear hK K
        refine wpFx_pure rfl (fun K hK => ?_); go_simp; refine hK _ ?_; clear hK K
        refine wpFx_load rfl rfl (fun K hK => ?_); go_simp; refine hK _ ?_; clear hK K
        refine wpFx_pure rfl (fun K hK => ?_); go_simp; refine hK _ ?_; clear hK K
        refine wpFx_pure rfl (fun K hK => ?_); go_simp; refine hK _ ?_; clear hK K
        refine wpFx_pure rfl (fun K hK => ?_); go_simp; refine hK _ ?_; clear hK K
        refine wpFx_es rfl rfl (fun K hK => ?_); go_simp
        refine hRm.mono ?_
        rintro e w' ⟨rfl, rfl⟩
        refine hK _ _ hC0 ?_; clear hK K
        refine wpFx_pure rfl (fun K hK => ?_); go_simp; refine hK _ ?_; clear hK K
        refine wpFx_pure rfl (fun K hK => ?_); go_simp; refine hK _ ?_; clear hK K
        refine wpFx_nil ?_
        go_wp2_with fail
        go_meet
        case rel => exact ⟨rfl, hd⟩
  case rest =>
    obtain ⟨rfl, hUc⟩ := hcut
    clear hN hNe
    have hc := h.upd hUc (by simp)
    have hTk := rp_take2 (N : Int) hc hx
    go_wp2_with fail
    refine hTk.mono ?_
    rintro e w2 ⟨v, L2, rfl, hG, hP2, hU2, hW2, hout⟩
    have hS := rp_send (j : Int) hP2 (Own.rd hG) hout (by rw [taken_outs]; omega)
    rw [← hh2] at hS
    have ho2 : (p.hand2 i j m).outs.length ≤ p.outs.length + 1 := by
      rw [hh2]
      have := sent_outs (p := p.taken i (N : Int)) (j : Int) (p.takeB i (N : Int))
      rw [taken_outs] at this
      exact this
    have hl2 : (p.hand2 i j m).ends.length = p.ends.length := by rw [hh2, sent_len, taken_len]
    generalize hq : p.hand2 i j m = q at *
    obtain ⟨av, cv, rfl⟩ := hG.shape
    clear hTk hh2
    go_wp2_with fail
    refine hS.mono ?_
    rintro e w3 ⟨rfl, L3, hP3, hU3, hW3⟩
    have hE := rp_ended (i : Int) hP3
    have hfin : p.handed i j m = q.finIf i j := by unfold PortM.handed; rw [hq]
    have hR3 : ∀ {p' : PortM} {w4 : World}, RPost w3 base c L3 p' w4 → RPost w base c L p' w4 := fun hh => ((hh.after hU3 hW3).after hU2 hW2).pre hUc
    have HF := Lib.hid hfin
    clear hfin
    clear hG hout hS hP2 hU2 hW2 hU3 hW3 hc
    rcases Bool.eq_false_or_eq_true (q.ended i) with he | he
    · rw [he] at hE
      have HT := Lib.hid (show q.finIf i j = q.fined j from finIf_t he)
      obtain ⟨z, hz⟩ : ∃ z, q.ends[j]? = some z := ⟨q.ends[j]'(by omega), List.getElem?_eq_getElem (by omega)⟩
      have haz : q.at? (j : Int) = some z := by rw [PortM.at?_nat]; exact hz
      obtain ⟨g, off, cap, hv, hg, c0, c1, c2, c3, c4, c5, hfz⟩ := hP3.cells hz
      have b2 := hP3.blk.cell (i := 2) rfl
      rw [hv, hl2] at b2
      have hsm := h.small
      have eadd : (⟨g, off, none⟩ : Addr).add (j * 6) = ⟨g, off + j * 6, none⟩ := addr_add _ _ _
      clear hfz c1 c2 c3 c5
      by_cases hs : z.st = 1
      · rw [hs] at c0
        rcases Bool.eq_false_or_eq_true z.ours with ho | ho
        · rw [ho] at c4
          have HS := Lib.hid (fined_same haz (fun hh => by rw [ho] at hh; cases hh.2))
          go_wp2_with fail
          refine hE.mono ?_
          rintro e w' ⟨rfl, rfl⟩
          go_wp2_with fail
          go_ret2
          exact ⟨rfl, by rw [HF.out, HT.out, HS.out]; exact hR3 (RPost.refl hP3)⟩
        · rw [ho] at c4
          have hF := rp_fin (j : Int) hP3 (by omega)
          go_wp2_with fail
          refine hE.mono ?_
          rintro e w' ⟨rfl, rfl⟩
          go_wp2_with fail
          refine hF.mono ?_
          rintro e w4 ⟨rfl, hp⟩
          go_wp2_with fail
          go_ret2
          exact ⟨rfl, by rw [HF.out, HT.out]; exact hR3 hp⟩
      · have hsb : ((z.st : Int) == 1) = false := by simp; omega
        have HS := Lib.hid (fined_same haz (fun hh => hs hh.1))
        go_wp2_with fail
        refine hE.mono ?_
        rintro e w' ⟨rfl, rfl⟩
        go_wp2_with fail
        go_ret2
        exact ⟨rfl, by rw [HF.out, HT.out, HS.out]; exact hR3 (RPost.refl hP3)⟩
    · rw [he] at hE
      have HT := Lib.hid (show q.finIf i j = q from finIf_f he)
      go_wp2_with fail
      refine hE.mono ?_
      rintro e w' ⟨rfl, rfl⟩
      go_wp2_with fail
      go_ret2
      exact ⟨rfl, by rw [HF.out, HT.out]; exact hR3 (RPost.refl hP3)⟩
end

end Go.Proofs.Ytnbhgfnjnccakaa
