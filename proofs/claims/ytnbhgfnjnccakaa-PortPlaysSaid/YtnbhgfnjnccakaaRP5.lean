/- The walks of the document's port's Fin, Close, Dial, Post, Send (written by gen_rp5.py). -/
import Derived.Test.YtnbhgfnjnccakaaRP4
namespace Go.Proofs.Ytnbhgfnjnccakaa
open Go Go.RowKit
set_option linter.unusedVariables false

section
variable {w w1 : World} {base c : Nat} {L : XLay} {p : PortM}

set_option maxHeartbeats 1000000 in
set_option maxRecDepth 100000 in
theorem rp_fin (k : Int) (h : RPortAt w base c L p) (hlen : p.outs.length < 1900000000000) :
    Calls Try.prog 44 #[.pointer (some ⟨c, 0, none⟩), .int .i64 k] w fun e w' => e = .returned (.int .i64 (p.finE k : Nat)) ∧ RPost w base c L (p.fined k) w' := by
  rcases p.at?_cases k with ⟨hn, _⟩ | ⟨i, x, rfl, hx, hax, hil⟩
  · have e1 : p.finE k = 2 := by unfold PortM.finE; rw [hn]
    have e2 : p.fined k = p := by unfold PortM.fined; rw [hn]
    have hf := rp_stream_f h hn
    rw [e1, e2]
    go_enter Try.func44, Try.ntmps44
    go_wp2_with fail
    refine hf.mono ?_
    rintro e w' ⟨rfl, rfl⟩
    go_wp2_with fail
    go_ret
    exact ⟨rfl, RPost.refl h⟩
  · obtain ⟨g, off, cap, hv, hg, _⟩ := h.cells hx
    obtain ⟨c0, c1, c2, c3, c4, c5, hfz⟩ := h.cellsAt hx hv
    have hf := rp_stream_t h hx
    have hsm := h.small
    have b2 := h.blk.cell (i := 2) rfl
    rw [hv] at b2
    have eadd : (⟨g, off, none⟩ : Addr).add (i * 6) = ⟨g, off + i * 6, none⟩ := addr_add _ _ _
    by_cases hst : x.st = 1
    · rw [hst] at c0
      rcases Bool.eq_false_or_eq_true x.ours with ho | ho
      · have e1 : p.finE i = 150 := by unfold PortM.finE; rw [hax]; simp only []; rw [if_neg (fun hh => by rw [ho] at hh; cases hh.2)]
        have e2 : p.fined i = p := by unfold PortM.fined; rw [hax]; simp only []; rw [if_neg (fun hh => by rw [ho] at hh; cases hh.2)]
        rw [e1, e2]
        rw [ho] at c4
        clear hfz
        go_enter Try.func44, Try.ntmps44
        go_wp2_with fail
        refine hf.mono ?_
        rintro e w' ⟨rfl, rfl⟩
        go_wp2_with fail
        go_ret
        exact ⟨rfl, RPost.refl h⟩
      · have e1 : p.finE i = 0 := by unfold PortM.finE; rw [hax]; simp only []; rw [if_pos ⟨hst, ho⟩]
        have e2 : p.fined i = { p.setEnd i { x with ours := true } with outs := p.outs ++ [⟨3, i, .empty, DestM.zero⟩] } := by unfold PortM.fined; rw [hax]; simp only []; rw [if_pos ⟨hst, ho⟩, Int.toNat_natCast]
        have f4 := hfz (off + i * 6 + 4)
        have hfx := h.fine x (List.mem_of_getElem? hx)
        have pp := h.write (j := 4) (e' := { x with ours := true }) (u := .bool true) hx hv (by decide) rfl rfl hfx
        have hUs : Upd L.foot w (w.setCell ⟨g, off + i * 6 + 4, none⟩ (.bool true)) := (Upd.refl _ _).setCell (a := ⟨g, off + i * 6 + 4, none⟩) (Or.inl (h.tl g (by rw [hv]; rfl)).2.2) _
        obtain ⟨ao, co, hvo⟩ := h.outs.shape
        have b4 := h.blk.cell (i := 4) rfl
        rw [hvo] at b4
        have hgc : g ≠ c := hg.ne h.tb (by decide)
        rw [e1, e2]
        rw [ho] at c4
        clear hfz
        go_enter Try.func44, Try.ntmps44
        go_wp2_with fail
        refine hf.mono ?_
        rintro e w' ⟨rfl, rfl⟩
        have hX := blk_new' (w.setCell ⟨g, off + i * 6 + 4, none⟩ (.bool true)) 51 #[.int .i64 0, .int .i64 3, .int .i64 i, .string ⟨#[]⟩, .int .u8 0, .int .u8 0, .int .u8 0, .int .u8 0, .string ⟨#[]⟩, .int .i64 0]
        have kx : Upd [] (w.setCell ⟨g, off + i * 6 + 4, none⟩ (.bool true)) ((w.setCell ⟨g, off + i * 6 + 4, none⟩ (.bool true)).alloc (.cells #[.int .i64 0, .int .i64 3, .int .i64 i, .string ⟨#[]⟩, .int .u8 0, .int .u8 0, .int .u8 0, .int .u8 0, .string ⟨#[]⟩, .int .i64 0] 51)) := (Upd.refl _ _).alloc _
        have hA := pp.upd kx (by simp)
        have hoA := hA.outs
        rw [hvo] at hoA
        have hbsA := hA.bsz
        go_wp2_with (with_reducible refine wpList_append_gen rfl (.tmp 39) (.tmp 42) 42 42 rfl 51 (outV ⟨0, 0, .empty, DestM.zero⟩) 10 72 Try.underlying42 Try.infoOut rfl base ?a1 (.slice ao p.outs.length co) p.outs.length (outsC p.outs) rfl ?a2 _ 1 (outC ⟨3, i, .empty, DestM.zero⟩) rfl ?a3 ?a4 ?a5 ?a6)
        case a1 => exact hbsA
        case a2 => exact hoA
        case a3 => exact Src.ofSlice _ Try.underlying42 ⟨_, 0, none⟩ _ _ _ rfl (fun j u hj => by rw [addr_add, Nat.zero_add]; first | exact hX.cell hj | exact (by simpa using hX.cell hj)) (outC_one _)
        case a4 => unfold maxLen; omega
        case a5 => omega
        case a6 =>
          intro v' w4 hown4 hU4 hblk4 hnil4 hoff4
          have hnb : c ∉ (Value.slice ao p.outs.length co).ownBlock.toList := fun hq => (hA.to c (by rw [hvo]; exact mem_ownP hq)).ne hA.tb (by decide) rfl
          have hb4 := hA.blk.upd hU4 hnb
          have cb4 := hb4.cell (i := 4) rfl
          have cf4 := hb4.frozen 4
          rw [hvo] at cb4
          obtain ⟨ao', co', rfl⟩ := hown4.shape
          have hR := hA.reout (outs' := p.outs ++ [⟨3, i, .empty, DestM.zero⟩]) (w1 := w4) (vo' := .slice ao' (p.outs.length + 1) co') (by rw [hvo]; exact hU4) (by rw [List.length_append, outsC_append, show outsC [⟨3, i, .empty, DestM.zero⟩] = outC ⟨3, i, .empty, DestM.zero⟩ by simp [outsC]]; exact hown4) (fun q hq => by rw [hvo]; rcases hblk4 q hq with h' | h'; exact Or.inl h'; exact Or.inr (by simpa using h')) rfl
          clear hown4 hU4 hblk4 hnil4 hoff4 hnb hoA hX
          go_wp2_with fail
          go_ret
          exact ⟨rfl, (RPost.pre (RPost.mk' hR.1 hR.2.1 hR.2.2) kx).after hUs (Within.refl _ _)⟩
    · have hst' : ¬ (x.st : Int) = 1 := by omega
      have hstb : ((x.st : Int) == 1) = false := by simp; omega
      have e1 : p.finE i = 150 := by unfold PortM.finE; rw [hax]; simp only []; rw [if_neg (fun hh => hst hh.1)]
      have e2 : p.fined i = p := by unfold PortM.fined; rw [hax]; simp only []; rw [if_neg (fun hh => hst hh.1)]
      rw [e1, e2]
      clear hfz
      go_enter Try.func44, Try.ntmps44
      go_wp2_with fail
      refine hf.mono ?_
      rintro e w' ⟨rfl, rfl⟩
      go_wp2_with fail
      go_ret
      exact ⟨rfl, RPost.refl h⟩

set_option maxHeartbeats 1000000 in
set_option maxRecDepth 100000 in
theorem rp_close (k : Int) (h : RPortAt w base c L p) (hlen : p.outs.length < 1900000000000) :
    Calls Try.prog 70 #[.pointer (some ⟨c, 0, none⟩), .int .i64 k] w fun e w' => e = .returned (.int .i64 (p.closeE k : Nat)) ∧ RPost w base c L (p.closed k) w' := by
  rcases p.at?_cases k with ⟨hn, _⟩ | ⟨i, x, rfl, hx, hax, hil⟩
  · have e1 : p.closeE k = 2 := by unfold PortM.closeE; rw [hn]
    have e2 : p.closed k = p := by unfold PortM.closed; rw [hn]
    have hf := rp_stream_f h hn
    rw [e1, e2]
    go_enter Try.func70, Try.ntmps70
    go_wp2_with fail
    refine hf.mono ?_
    rintro e w' ⟨rfl, rfl⟩
    go_wp2_with fail
    go_ret
    exact ⟨rfl, RPost.refl h⟩
  · obtain ⟨g, off, cap, hv, hg, _⟩ := h.cells hx
    obtain ⟨c0, c1, c2, c3, c4, c5, hfz⟩ := h.cellsAt hx hv
    have hf := rp_stream_t h hx
    have hsm := h.small
    have b2 := h.blk.cell (i := 2) rfl
    rw [hv] at b2
    have eadd : (⟨g, off, none⟩ : Addr).add (i * 6) = ⟨g, off + i * 6, none⟩ := addr_add _ _ _
    obtain ⟨ao, co, hvo⟩ := h.outs.shape
    have b4 := h.blk.cell (i := 4) rfl
    rw [hvo] at b4
    clear hfz
    by_cases hst : x.st = 0
    · have e1 : p.closeE i = 150 := by unfold PortM.closeE; rw [hax]; simp only []; rw [if_pos hst]
      have e2 : p.closed i = p := by unfold PortM.closed; rw [hax]; simp only []; rw [if_pos hst]
      rw [e1, e2]
      rw [hst] at c0
      have k1 : Upd [] w (w.alloc (.cells #[.int .i64 0, .int .i64 x.room, .bool x.fresh, .bool x.theirs, .bool x.ours, .pointer (some ⟨L.rb i, 0, none⟩)] 120)) := (Upd.refl _ _).alloc _
      have h1 := h.upd k1 (by simp)
      have b4' := h1.blk.cell (i := 4) rfl
      rw [hvo] at b4'
      go_enter Try.func70, Try.ntmps70
      go_wp2_with fail
      refine hf.mono ?_
      rintro e w' ⟨rfl, rfl⟩
      go_wp2_with fail
      go_ret
      exact ⟨rfl, (RPost.refl h1).pre k1⟩
    · have e1 : p.closeE i = 0 := by unfold PortM.closeE; rw [hax]; simp only []; rw [if_neg hst]
      have hb0 : ((x.st : Int) == 0) = false := by simp; omega
      have hn0 : ¬ (x.st : Int) = 0 := by omega
      rcases Bool.eq_false_or_eq_true x.quietB with hq | hq
      · have e2 : p.closed i = p.setEnd i (EndM.reset 0) := by unfold PortM.closed; rw [hax]; simp only []; rw [if_neg hst, if_pos hq, Int.toNat_natCast]
        rw [e1, e2]
        by_cases h3 : x.st = 3
        · have hc3 : (x.st : Int) = 3 := by omega
          have hb3 : ((x.st : Int) == 3) = true := by simp; omega
          rw [h3] at c0
          clear hb0 hn0 hb3 hc3
          have k1 : Upd [] w (w.alloc (.cells #[.int .i64 3, .int .i64 x.room, .bool x.fresh, .bool x.theirs, .bool x.ours, .pointer (some ⟨L.rb i, 0, none⟩)] 120)) := (Upd.refl _ _).alloc _
          have h1 := h.upd k1 (by simp)
          have b4' := h1.blk.cell (i := 4) rfl
          rw [hvo] at b4'
          go_enter Try.func70, Try.ntmps70
          go_wp2_with fail
          refine hf.mono ?_
          rintro e w' ⟨rfl, rfl⟩
          have hvQ := hv
          go_wp2_with fail
          generalize hwx : w.alloc (.cells #[.int .i64 3, .int .i64 x.room, .bool x.fresh, .bool x.theirs, .bool x.ours, .pointer (some ⟨L.rb i, 0, none⟩)] 120) = w1 at *
          have h2Q := h1.upd ((Upd.refl [] w1).drew) (by simp)
          have b2Q := h2Q.blk.cell (i := 2) rfl
          rw [hvQ] at b2Q
          obtain ⟨C, hC⟩ : ∃ C : World → Prop, C = fun w' => w'.cell? ⟨c, 2, none⟩ = some (.slice (some ⟨g, off, none⟩) p.ends.length cap) := ⟨_, rfl⟩
          have hCo : ∀ w', C w' → w'.cell? ⟨c, 2, none⟩ = some (.slice (some ⟨g, off, none⟩) p.ends.length cap) := fun w' h => by rw [hC] at h; exact h
          have hCi : ∀ w', w'.cell? ⟨c, 2, none⟩ = some (.slice (some ⟨g, off, none⟩) p.ends.length cap) → C w' := fun w' h => by rw [hC]; exact h
          have hC0 : C w1.drew := hCi _ b2Q
          have cc : ∀ x : { w' // C w' }, x.1.cell? ⟨c, 2, none⟩ = some (.slice (some ⟨g, off, none⟩) p.ends.length cap) := fun y => hCo _ y.2
          haveI : Nonempty { w' // C w' } := ⟨⟨_, hC0⟩⟩
          refine wp_region_fxl C [6] [8] [3] rfl (by kernel_rfl) hC0 (fun M => ?_)
          clear c0 c1 c2 c3 c4 c5
          have hFQ := rp_fresh 0 h2Q
          have hdQ : Upd [] w1 w1.drew := (Upd.refl _ _).drew
          generalize w1.drew = wdQ at *
          refine wpFx_pure rfl (fun K hK => ?_); go_simp; refine hK _ ?_; clear hK K
          refine wpFx_pure rfl (fun K hK => ?_); go_simp; refine hK _ ?_; clear hK K
          refine wpFx_pure rfl (fun K hK => ?_); go_simp; refine hK _ ?_; clear hK K
          refine wpFx_load rfl rfl (fun K hK => ?_); go_simp; refine hK _ ?_; clear hK K
          refine wpFx_pure rfl (fun K hK => ?_); go_simp; refine hK _ ?_; clear hK K
          refine wpFx_pure rfl (fun K hK => ?_); go_simp; refine hK _ ?_; clear hK K
          refine wpFx_es rfl rfl (fun K hK => ?_); go_simp
          refine hFQ.mono ?_
          rintro e w3Q ⟨BQ, rfl, hBQ, hRQ, hU3Q⟩
          have h3Q := h2Q.upd hU3Q (by simp)
          have b3Q := h3Q.blk.cell (i := 2) rfl
          rw [hvQ] at b3Q
          refine hK _ _ (hCi _ b3Q) ?_
          clear hK K
          obtain ⟨d0, d1, d2, d3, d4, d5, hfz⟩ := h3Q.cellsAt hx hvQ
          have f0 := hfz (off + i * 6)
          have f1 := hfz (off + i * 6 + 1)
          have f2 := hfz (off + i * 6 + 2)
          have f3 := hfz (off + i * 6 + 3)
          have f4 := hfz (off + i * 6 + 4)
          have f5 := hfz (off + i * 6 + 5)
          clear hfz
          refine wpFx_pure rfl (fun K hK => ?_); go_simp; refine hK _ ?_; clear hK K
          refine wpFx_et rfl rfl rfl (fun K hK => ?_); go_simp
          refine hK _ _ ?_; clear hK K
          refine wpFx_nil ?_
          generalize hw4 : (((((w3Q.setCell ⟨g, off + i * 6, none⟩ (.int .i64 0)).setCell ⟨g, off + i * 6 + 1, none⟩ (.int .i64 0)).setCell ⟨g, off + i * 6 + 2, none⟩ (.bool false)).setCell ⟨g, off + i * 6 + 3, none⟩ (.bool false)).setCell ⟨g, off + i * 6 + 4, none⟩ (.bool false)).setCell ⟨g, off + i * 6 + 5, none⟩ (.pointer (some ⟨BQ, 0, none⟩)) = w4Q at *
          obtain ⟨hNQ, hNuQ, hNwQ⟩ := h2Q.renew (e := EndM.reset 0) hil hvQ hU3Q hBQ hRQ rfl ⟨by decide, Nat.zero_le _⟩ hw4.symm
          clear hC hCo hCi hC0 cc M d0 d1 d2 d3 d4 d5 f0 f1 f2 f3 f4 f5 b2Q b3Q hw4 hFQ
          go_wp2_with fail
          go_ret
          exact ⟨rfl, ((RPost.mk' hNQ hNuQ hNwQ).pre hdQ).pre k1⟩
        · have h3' : ¬ (x.st : Int) = 3 := by omega
          have hb3 : ((x.st : Int) == 3) = false := by simp; omega
          have hot : x.ours = true ∧ x.theirs = true := by
            unfold EndM.quietB at hq
            have : (x.st == 3) = false := by simpa using h3
            rw [this] at hq
            simpa using hq
          obtain ⟨ho, ht⟩ := hot
          rw [ht] at c3
          rw [ho] at c4
          have k1 : Upd [] w (w.alloc (.cells #[.int .i64 x.st, .int .i64 x.room, .bool x.fresh, .bool true, .bool true, .pointer (some ⟨L.rb i, 0, none⟩)] 120)) := (Upd.refl _ _).alloc _
          have h1 := h.upd k1 (by simp)
          have b4' := h1.blk.cell (i := 4) rfl
          rw [hvo] at b4'
          go_enter Try.func70, Try.ntmps70
          go_wp2_with fail
          refine hf.mono ?_
          rintro e w' ⟨rfl, rfl⟩
          have hvQ := hv
          go_wp2_with fail
          generalize hwx : w.alloc (.cells #[.int .i64 x.st, .int .i64 x.room, .bool x.fresh, .bool true, .bool true, .pointer (some ⟨L.rb i, 0, none⟩)] 120) = w1 at *
          have h2Q := h1.upd ((Upd.refl [] w1).drew) (by simp)
          have b2Q := h2Q.blk.cell (i := 2) rfl
          rw [hvQ] at b2Q
          obtain ⟨C, hC⟩ : ∃ C : World → Prop, C = fun w' => w'.cell? ⟨c, 2, none⟩ = some (.slice (some ⟨g, off, none⟩) p.ends.length cap) := ⟨_, rfl⟩
          have hCo : ∀ w', C w' → w'.cell? ⟨c, 2, none⟩ = some (.slice (some ⟨g, off, none⟩) p.ends.length cap) := fun w' h => by rw [hC] at h; exact h
          have hCi : ∀ w', w'.cell? ⟨c, 2, none⟩ = some (.slice (some ⟨g, off, none⟩) p.ends.length cap) → C w' := fun w' h => by rw [hC]; exact h
          have hC0 : C w1.drew := hCi _ b2Q
          have cc : ∀ x : { w' // C w' }, x.1.cell? ⟨c, 2, none⟩ = some (.slice (some ⟨g, off, none⟩) p.ends.length cap) := fun y => hCo _ y.2
          haveI : Nonempty { w' // C w' } := ⟨⟨_, hC0⟩⟩
          refine wp_region_fxl C [6] [8] [3] rfl (by kernel_rfl) hC0 (fun M => ?_)
          clear c0 c1 c2 c3 c4 c5
          have hFQ := rp_fresh 0 h2Q
          have hdQ : Upd [] w1 w1.drew := (Upd.refl _ _).drew
          generalize w1.drew = wdQ at *
          refine wpFx_pure rfl (fun K hK => ?_); go_simp; refine hK _ ?_; clear hK K
          refine wpFx_pure rfl (fun K hK => ?_); go_simp; refine hK _ ?_; clear hK K
          refine wpFx_pure rfl (fun K hK => ?_); go_simp; refine hK _ ?_; clear hK K
          refine wpFx_load rfl rfl (fun K hK => ?_); go_simp; refine hK _ ?_; clear hK K
          refine wpFx_pure rfl (fun K hK => ?_); go_simp; refine hK _ ?_; clear hK K
          refine wpFx_pure rfl (fun K hK => ?_); go_simp; refine hK _ ?_; clear hK K
          refine wpFx_es rfl rfl (fun K hK => ?_); go_simp
          refine hFQ.mono ?_
          rintro e w3Q ⟨BQ, rfl, hBQ, hRQ, hU3Q⟩
          have h3Q := h2Q.upd hU3Q (by simp)
          have b3Q := h3Q.blk.cell (i := 2) rfl
          rw [hvQ] at b3Q
          refine hK _ _ (hCi _ b3Q) ?_
          clear hK K
          obtain ⟨d0, d1, d2, d3, d4, d5, hfz⟩ := h3Q.cellsAt hx hvQ
          have f0 := hfz (off + i * 6)
          have f1 := hfz (off + i * 6 + 1)
          have f2 := hfz (off + i * 6 + 2)
          have f3 := hfz (off + i * 6 + 3)
          have f4 := hfz (off + i * 6 + 4)
          have f5 := hfz (off + i * 6 + 5)
          clear hfz
          refine wpFx_pure rfl (fun K hK => ?_); go_simp; refine hK _ ?_; clear hK K
          refine wpFx_et rfl rfl rfl (fun K hK => ?_); go_simp
          refine hK _ _ ?_; clear hK K
          refine wpFx_nil ?_
          generalize hw4 : (((((w3Q.setCell ⟨g, off + i * 6, none⟩ (.int .i64 0)).setCell ⟨g, off + i * 6 + 1, none⟩ (.int .i64 0)).setCell ⟨g, off + i * 6 + 2, none⟩ (.bool false)).setCell ⟨g, off + i * 6 + 3, none⟩ (.bool false)).setCell ⟨g, off + i * 6 + 4, none⟩ (.bool false)).setCell ⟨g, off + i * 6 + 5, none⟩ (.pointer (some ⟨BQ, 0, none⟩)) = w4Q at *
          obtain ⟨hNQ, hNuQ, hNwQ⟩ := h2Q.renew (e := EndM.reset 0) hil hvQ hU3Q hBQ hRQ rfl ⟨by decide, Nat.zero_le _⟩ hw4.symm
          clear hC hCo hCi hC0 cc M d0 d1 d2 d3 d4 d5 f0 f1 f2 f3 f4 f5 b2Q b3Q hw4 hFQ
          go_wp2_with fail
          go_ret
          exact ⟨rfl, ((RPost.mk' hNQ hNuQ hNwQ).pre hdQ).pre k1⟩
      · have e2 : p.closed i = (p.told ⟨4, i, .empty, DestM.zero⟩).setEnd i (EndM.reset 0) := by unfold PortM.closed; rw [hax]; simp only []; rw [if_neg hst, if_neg (by rw [hq]; simp), Int.toNat_natCast]
        have hq' := hq
        unfold EndM.quietB at hq'
        have h3 : ¬ x.st = 3 := fun e => by rw [e] at hq'; simp at hq'
        have h3' : ¬ (x.st : Int) = 3 := by omega
        have hb3 : ((x.st : Int) == 3) = false := by simp; omega
        have hot : x.theirs = false ∨ (x.theirs = true ∧ x.ours = false) := by
          have : (x.st == 3) = false := by simpa using h3
          rw [this] at hq'
          cases ho : x.theirs
          · exact Or.inl rfl
          · rw [ho] at hq'; exact Or.inr ⟨rfl, by simpa using hq'⟩
        rw [e1, e2]
        clear hq' hq
        rcases hot with ho | ⟨ho, ht⟩
        · skip
          rw [ho] at c3
          have k1 : Upd [] w (w.alloc (.cells #[.int .i64 x.st, .int .i64 x.room, .bool x.fresh, .bool false, .bool x.ours, .pointer (some ⟨L.rb i, 0, none⟩)] 120)) := (Upd.refl _ _).alloc _
          have h1 := h.upd k1 (by simp)
          have b4' := h1.blk.cell (i := 4) rfl
          rw [hvo] at b4'
          go_enter Try.func70, Try.ntmps70
          go_wp2_with fail
          refine hf.mono ?_
          rintro e w' ⟨rfl, rfl⟩
          have hX := blk_new' (w.alloc (.cells #[.int .i64 x.st, .int .i64 x.room, .bool x.fresh, .bool false, .bool x.ours, .pointer (some ⟨L.rb i, 0, none⟩)] 120)) 51 #[.int .i64 0, .int .i64 4, .int .i64 i, .string ⟨#[]⟩, .int .u8 0, .int .u8 0, .int .u8 0, .int .u8 0, .string ⟨#[]⟩, .int .i64 0]
          have kx : Upd [] (w.alloc (.cells #[.int .i64 x.st, .int .i64 x.room, .bool x.fresh, .bool false, .bool x.ours, .pointer (some ⟨L.rb i, 0, none⟩)] 120)) ((w.alloc (.cells #[.int .i64 x.st, .int .i64 x.room, .bool x.fresh, .bool false, .bool x.ours, .pointer (some ⟨L.rb i, 0, none⟩)] 120)).alloc (.cells #[.int .i64 0, .int .i64 4, .int .i64 i, .string ⟨#[]⟩, .int .u8 0, .int .u8 0, .int .u8 0, .int .u8 0, .string ⟨#[]⟩, .int .i64 0] 51)) := (Upd.refl _ _).alloc _
          have hA := h1.upd kx (by simp)
          have hoA := hA.outs
          rw [hvo] at hoA
          have hbsA := hA.bsz
          go_wp2_with (with_reducible refine wpList_append_gen rfl (.tmp 36) (.tmp 39) 42 42 rfl 51 (outV ⟨0, 0, .empty, DestM.zero⟩) 10 72 Try.underlying42 Try.infoOut rfl base ?a1 (.slice ao p.outs.length co) p.outs.length (outsC p.outs) rfl ?a2 _ 1 (outC ⟨4, i, .empty, DestM.zero⟩) rfl ?a3 ?a4 ?a5 ?a6)
          case a1 => exact hbsA
          case a2 => exact hoA
          case a3 => exact Src.ofSlice _ Try.underlying42 ⟨_, 0, none⟩ _ _ _ rfl (fun j u hj => by rw [addr_add, Nat.zero_add]; first | exact hX.cell hj | exact (by simpa using hX.cell hj)) (outC_one _)
          case a4 => unfold maxLen; omega
          case a5 => omega
          case a6 =>
            intro v' w4 hown4 hU4 hblk4 hnil4 hoff4
            have hnb : c ∉ (Value.slice ao p.outs.length co).ownBlock.toList := fun hq => (hA.to c (by rw [hvo]; exact mem_ownP hq)).ne hA.tb (by decide) rfl
            have hb4 := hA.blk.upd hU4 hnb
            have cb4 := hb4.cell (i := 4) rfl
            have cf4 := hb4.frozen 4
            rw [hvo] at cb4
            obtain ⟨ao', co', rfl⟩ := hown4.shape
            have hR := hA.reout (outs' := p.outs ++ [⟨4, i, .empty, DestM.zero⟩]) (w1 := w4) (vo' := .slice ao' (p.outs.length + 1) co') (by rw [hvo]; exact hU4) (by rw [List.length_append, outsC_append, show outsC [⟨4, i, .empty, DestM.zero⟩] = outC ⟨4, i, .empty, DestM.zero⟩ by simp [outsC]]; exact hown4) (fun q hq => by rw [hvo]; rcases hblk4 q hq with h' | h'; exact Or.inl h'; exact Or.inr (by simpa using h')) rfl
            clear hown4 hU4 hblk4 hnil4 hoff4 hnb hoA hX

            have hvR : (L.reout ((w.alloc (.cells #[.int .i64 x.st, .int .i64 x.room, .bool x.fresh, .bool false, .bool x.ours, .pointer (some ⟨L.rb i, 0, none⟩)] 120)).alloc (.cells #[.int .i64 0, .int .i64 4, .int .i64 i, .string ⟨#[]⟩, .int .u8 0, .int .u8 0, .int .u8 0, .int .u8 0, .string ⟨#[]⟩, .int .i64 0] 51)).heap.size (.slice ao' (p.outs.length + 1) co')).ve = .slice (some ⟨g, off, none⟩) p.ends.length cap := hv
            go_wp2_with fail
            have hN0 := hR.1
            generalize hwx : w.alloc (.cells #[.int .i64 x.st, .int .i64 x.room, .bool x.fresh, .bool false, .bool x.ours, .pointer (some ⟨L.rb i, 0, none⟩)] 120) = w1 at *
            generalize hwz : w4.setCell ⟨c, 4, none⟩ (.slice ao' (p.outs.length + 1) co') = w5 at *
            have h2R := hN0.upd ((Upd.refl [] w5).drew) (by simp)
            have b2R := h2R.blk.cell (i := 2) rfl
            rw [hvR] at b2R
            obtain ⟨C, hC⟩ : ∃ C : World → Prop, C = fun w' => w'.cell? ⟨c, 2, none⟩ = some (.slice (some ⟨g, off, none⟩) p.ends.length cap) := ⟨_, rfl⟩
            have hCo : ∀ w', C w' → w'.cell? ⟨c, 2, none⟩ = some (.slice (some ⟨g, off, none⟩) p.ends.length cap) := fun w' h => by rw [hC] at h; exact h
            have hCi : ∀ w', w'.cell? ⟨c, 2, none⟩ = some (.slice (some ⟨g, off, none⟩) p.ends.length cap) → C w' := fun w' h => by rw [hC]; exact h
            have hC0 : C w5.drew := hCi _ b2R
            have cc : ∀ x : { w' // C w' }, x.1.cell? ⟨c, 2, none⟩ = some (.slice (some ⟨g, off, none⟩) p.ends.length cap) := fun y => hCo _ y.2
            haveI : Nonempty { w' // C w' } := ⟨⟨_, hC0⟩⟩
            refine wp_region_fxl C [6] [8] [3] rfl (by kernel_rfl) hC0 (fun M => ?_)
            clear c0 c1 c2 c3 c4 c5
            have hFR := rp_fresh 0 h2R
            have hdR : Upd [] w5 w5.drew := (Upd.refl _ _).drew
            generalize w5.drew = wdR at *
            refine wpFx_pure rfl (fun K hK => ?_); go_simp; refine hK _ ?_; clear hK K
            refine wpFx_pure rfl (fun K hK => ?_); go_simp; refine hK _ ?_; clear hK K
            refine wpFx_pure rfl (fun K hK => ?_); go_simp; refine hK _ ?_; clear hK K
            refine wpFx_load rfl rfl (fun K hK => ?_); go_simp; refine hK _ ?_; clear hK K
            refine wpFx_pure rfl (fun K hK => ?_); go_simp; refine hK _ ?_; clear hK K
            refine wpFx_pure rfl (fun K hK => ?_); go_simp; refine hK _ ?_; clear hK K
            refine wpFx_es rfl rfl (fun K hK => ?_); go_simp
            refine hFR.mono ?_
            rintro e w3R ⟨BR, rfl, hBR, hRR, hU3R⟩
            have h3R := h2R.upd hU3R (by simp)
            have b3R := h3R.blk.cell (i := 2) rfl
            rw [hvR] at b3R
            refine hK _ _ (hCi _ b3R) ?_
            clear hK K
            obtain ⟨d0, d1, d2, d3, d4, d5, hfz⟩ := h3R.cellsAt hx hvR
            have f0 := hfz (off + i * 6)
            have f1 := hfz (off + i * 6 + 1)
            have f2 := hfz (off + i * 6 + 2)
            have f3 := hfz (off + i * 6 + 3)
            have f4 := hfz (off + i * 6 + 4)
            have f5 := hfz (off + i * 6 + 5)
            clear hfz
            refine wpFx_pure rfl (fun K hK => ?_); go_simp; refine hK _ ?_; clear hK K
            refine wpFx_et rfl rfl rfl (fun K hK => ?_); go_simp
            refine hK _ _ ?_; clear hK K
            refine wpFx_nil ?_
            generalize hw4 : (((((w3R.setCell ⟨g, off + i * 6, none⟩ (.int .i64 0)).setCell ⟨g, off + i * 6 + 1, none⟩ (.int .i64 0)).setCell ⟨g, off + i * 6 + 2, none⟩ (.bool false)).setCell ⟨g, off + i * 6 + 3, none⟩ (.bool false)).setCell ⟨g, off + i * 6 + 4, none⟩ (.bool false)).setCell ⟨g, off + i * 6 + 5, none⟩ (.pointer (some ⟨BR, 0, none⟩)) = w4R at *
            obtain ⟨hNR, hNuR, hNwR⟩ := h2R.renew (e := EndM.reset 0) hil hvR hU3R hBR hRR rfl ⟨by decide, Nat.zero_le _⟩ hw4.symm
            clear hC hCo hCi hC0 cc M d0 d1 d2 d3 d4 d5 f0 f1 f2 f3 f4 f5 b2R b3R hw4 hFR
            go_wp2_with fail
            go_ret
            exact ⟨rfl, ((((RPost.mk' hNR hNuR hNwR).pre hdR).after hR.2.1 hR.2.2).pre kx).pre k1⟩
        · skip
          rw [ho] at c3
          rw [ht] at c4
          have k1 : Upd [] w (w.alloc (.cells #[.int .i64 x.st, .int .i64 x.room, .bool x.fresh, .bool true, .bool false, .pointer (some ⟨L.rb i, 0, none⟩)] 120)) := (Upd.refl _ _).alloc _
          have h1 := h.upd k1 (by simp)
          have b4' := h1.blk.cell (i := 4) rfl
          rw [hvo] at b4'
          go_enter Try.func70, Try.ntmps70
          go_wp2_with fail
          refine hf.mono ?_
          rintro e w' ⟨rfl, rfl⟩
          have hX := blk_new' (w.alloc (.cells #[.int .i64 x.st, .int .i64 x.room, .bool x.fresh, .bool true, .bool false, .pointer (some ⟨L.rb i, 0, none⟩)] 120)) 51 #[.int .i64 0, .int .i64 4, .int .i64 i, .string ⟨#[]⟩, .int .u8 0, .int .u8 0, .int .u8 0, .int .u8 0, .string ⟨#[]⟩, .int .i64 0]
          have kx : Upd [] (w.alloc (.cells #[.int .i64 x.st, .int .i64 x.room, .bool x.fresh, .bool true, .bool false, .pointer (some ⟨L.rb i, 0, none⟩)] 120)) ((w.alloc (.cells #[.int .i64 x.st, .int .i64 x.room, .bool x.fresh, .bool true, .bool false, .pointer (some ⟨L.rb i, 0, none⟩)] 120)).alloc (.cells #[.int .i64 0, .int .i64 4, .int .i64 i, .string ⟨#[]⟩, .int .u8 0, .int .u8 0, .int .u8 0, .int .u8 0, .string ⟨#[]⟩, .int .i64 0] 51)) := (Upd.refl _ _).alloc _
          have hA := h1.upd kx (by simp)
          have hoA := hA.outs
          rw [hvo] at hoA
          have hbsA := hA.bsz
          go_wp2_with (with_reducible refine wpList_append_gen rfl (.tmp 36) (.tmp 39) 42 42 rfl 51 (outV ⟨0, 0, .empty, DestM.zero⟩) 10 72 Try.underlying42 Try.infoOut rfl base ?a1 (.slice ao p.outs.length co) p.outs.length (outsC p.outs) rfl ?a2 _ 1 (outC ⟨4, i, .empty, DestM.zero⟩) rfl ?a3 ?a4 ?a5 ?a6)
          case a1 => exact hbsA
          case a2 => exact hoA
          case a3 => exact Src.ofSlice _ Try.underlying42 ⟨_, 0, none⟩ _ _ _ rfl (fun j u hj => by rw [addr_add, Nat.zero_add]; first | exact hX.cell hj | exact (by simpa using hX.cell hj)) (outC_one _)
          case a4 => unfold maxLen; omega
          case a5 => omega
          case a6 =>
            intro v' w4 hown4 hU4 hblk4 hnil4 hoff4
            have hnb : c ∉ (Value.slice ao p.outs.length co).ownBlock.toList := fun hq => (hA.to c (by rw [hvo]; exact mem_ownP hq)).ne hA.tb (by decide) rfl
            have hb4 := hA.blk.upd hU4 hnb
            have cb4 := hb4.cell (i := 4) rfl
            have cf4 := hb4.frozen 4
            rw [hvo] at cb4
            obtain ⟨ao', co', rfl⟩ := hown4.shape
            have hR := hA.reout (outs' := p.outs ++ [⟨4, i, .empty, DestM.zero⟩]) (w1 := w4) (vo' := .slice ao' (p.outs.length + 1) co') (by rw [hvo]; exact hU4) (by rw [List.length_append, outsC_append, show outsC [⟨4, i, .empty, DestM.zero⟩] = outC ⟨4, i, .empty, DestM.zero⟩ by simp [outsC]]; exact hown4) (fun q hq => by rw [hvo]; rcases hblk4 q hq with h' | h'; exact Or.inl h'; exact Or.inr (by simpa using h')) rfl
            clear hown4 hU4 hblk4 hnil4 hoff4 hnb hoA hX

            have hvR : (L.reout ((w.alloc (.cells #[.int .i64 x.st, .int .i64 x.room, .bool x.fresh, .bool true, .bool false, .pointer (some ⟨L.rb i, 0, none⟩)] 120)).alloc (.cells #[.int .i64 0, .int .i64 4, .int .i64 i, .string ⟨#[]⟩, .int .u8 0, .int .u8 0, .int .u8 0, .int .u8 0, .string ⟨#[]⟩, .int .i64 0] 51)).heap.size (.slice ao' (p.outs.length + 1) co')).ve = .slice (some ⟨g, off, none⟩) p.ends.length cap := hv
            go_wp2_with fail
            have hN0 := hR.1
            generalize hwx : w.alloc (.cells #[.int .i64 x.st, .int .i64 x.room, .bool x.fresh, .bool true, .bool false, .pointer (some ⟨L.rb i, 0, none⟩)] 120) = w1 at *
            generalize hwz : w4.setCell ⟨c, 4, none⟩ (.slice ao' (p.outs.length + 1) co') = w5 at *
            have h2R := hN0.upd ((Upd.refl [] w5).drew) (by simp)
            have b2R := h2R.blk.cell (i := 2) rfl
            rw [hvR] at b2R
            obtain ⟨C, hC⟩ : ∃ C : World → Prop, C = fun w' => w'.cell? ⟨c, 2, none⟩ = some (.slice (some ⟨g, off, none⟩) p.ends.length cap) := ⟨_, rfl⟩
            have hCo : ∀ w', C w' → w'.cell? ⟨c, 2, none⟩ = some (.slice (some ⟨g, off, none⟩) p.ends.length cap) := fun w' h => by rw [hC] at h; exact h
            have hCi : ∀ w', w'.cell? ⟨c, 2, none⟩ = some (.slice (some ⟨g, off, none⟩) p.ends.length cap) → C w' := fun w' h => by rw [hC]; exact h
            have hC0 : C w5.drew := hCi _ b2R
            have cc : ∀ x : { w' // C w' }, x.1.cell? ⟨c, 2, none⟩ = some (.slice (some ⟨g, off, none⟩) p.ends.length cap) := fun y => hCo _ y.2
            haveI : Nonempty { w' // C w' } := ⟨⟨_, hC0⟩⟩
            refine wp_region_fxl C [6] [8] [3] rfl (by kernel_rfl) hC0 (fun M => ?_)
            clear c0 c1 c2 c3 c4 c5
            have hFR := rp_fresh 0 h2R
            have hdR : Upd [] w5 w5.drew := (Upd.refl _ _).drew
            generalize w5.drew = wdR at *
            refine wpFx_pure rfl (fun K hK => ?_); go_simp; refine hK _ ?_; clear hK K
            refine wpFx_pure rfl (fun K hK => ?_); go_simp; refine hK _ ?_; clear hK K
            refine wpFx_pure rfl (fun K hK => ?_); go_simp; refine hK _ ?_; clear hK K
            refine wpFx_load rfl rfl (fun K hK => ?_); go_simp; refine hK _ ?_; clear hK K
            refine wpFx_pure rfl (fun K hK => ?_); go_simp; refine hK _ ?_; clear hK K
            refine wpFx_pure rfl (fun K hK => ?_); go_simp; refine hK _ ?_; clear hK K
            refine wpFx_es rfl rfl (fun K hK => ?_); go_simp
            refine hFR.mono ?_
            rintro e w3R ⟨BR, rfl, hBR, hRR, hU3R⟩
            have h3R := h2R.upd hU3R (by simp)
            have b3R := h3R.blk.cell (i := 2) rfl
            rw [hvR] at b3R
            refine hK _ _ (hCi _ b3R) ?_
            clear hK K
            obtain ⟨d0, d1, d2, d3, d4, d5, hfz⟩ := h3R.cellsAt hx hvR
            have f0 := hfz (off + i * 6)
            have f1 := hfz (off + i * 6 + 1)
            have f2 := hfz (off + i * 6 + 2)
            have f3 := hfz (off + i * 6 + 3)
            have f4 := hfz (off + i * 6 + 4)
            have f5 := hfz (off + i * 6 + 5)
            clear hfz
            refine wpFx_pure rfl (fun K hK => ?_); go_simp; refine hK _ ?_; clear hK K
            refine wpFx_et rfl rfl rfl (fun K hK => ?_); go_simp
            refine hK _ _ ?_; clear hK K
            refine wpFx_nil ?_
            generalize hw4 : (((((w3R.setCell ⟨g, off + i * 6, none⟩ (.int .i64 0)).setCell ⟨g, off + i * 6 + 1, none⟩ (.int .i64 0)).setCell ⟨g, off + i * 6 + 2, none⟩ (.bool false)).setCell ⟨g, off + i * 6 + 3, none⟩ (.bool false)).setCell ⟨g, off + i * 6 + 4, none⟩ (.bool false)).setCell ⟨g, off + i * 6 + 5, none⟩ (.pointer (some ⟨BR, 0, none⟩)) = w4R at *
            obtain ⟨hNR, hNuR, hNwR⟩ := h2R.renew (e := EndM.reset 0) hil hvR hU3R hBR hRR rfl ⟨by decide, Nat.zero_le _⟩ hw4.symm
            clear hC hCo hCi hC0 cc M d0 d1 d2 d3 d4 d5 f0 f1 f2 f3 f4 f5 b2R b3R hw4 hFR
            go_wp2_with fail
            go_ret
            exact ⟨rfl, ((((RPost.mk' hNR hNuR hNwR).pre hdR).after hR.2.1 hR.2.2).pre kx).pre k1⟩

end

end Go.Proofs.Ytnbhgfnjnccakaa
