/- The walks of the document's table: Close, Open. -/
import Derived.Test.YtfejlokinopjbaaRefT3
namespace Go.Proofs.Ytfejlokinopjbaa
open Go Go.RowKit
set_option linter.unusedVariables false

/-- A whole entry is written, cell by cell. -/
theorem RTab.store {w : World} {base c g off cap n i : Nat} {e e' : EntM} {t : TabM} {a0 a1 a2 a3 a4 : Value} (h : RTab w base c (.slice (some ⟨g, off, none⟩) n cap) t) (hi : t[i]? = some e) (hs : entR i e' = [a0, a1, a2, a3, a4]) (hf : e'.fine) :
    RPost w base c (.slice (some ⟨g, off, none⟩) n cap) (t.set i e') (((((w.setCell ⟨g, off + i * 5, none⟩ a0).setCell ⟨g, off + i * 5 + 1, none⟩ a1).setCell ⟨g, off + i * 5 + 2, none⟩ a2).setCell ⟨g, off + i * 5 + 3, none⟩ a3).setCell ⟨g, off + i * 5 + 4, none⟩ a4) := by
  obtain ⟨xs, h1, h2⟩ := h.ex
  have hl := h2.1
  have hil := (List.getElem?_eq_some_iff.1 hi).1
  have hn : n = t.length := by obtain ⟨ao, cap', hv⟩ := h1.shape; cases hv; rfl
  subst hn
  have hgc : g ≠ c := h.ap g rfl
  have x0 := h1.set (i * 5) a0 (by omega)
  have x1 := x0.set (i * 5 + 1) a1 (by simp only [List.length_set]; omega)
  have x2 := x1.set (i * 5 + 2) a2 (by simp only [List.length_set]; omega)
  have x3 := x2.set (i * 5 + 3) a3 (by simp only [List.length_set]; omega)
  have x4 := x3.set (i * 5 + 4) a4 (by simp only [List.length_set]; omega)
  simp only [← Nat.add_assoc] at x4
  have hU : Upd [c, g] w (((((w.setCell ⟨g, off + i * 5, none⟩ a0).setCell ⟨g, off + i * 5 + 1, none⟩ a1).setCell ⟨g, off + i * 5 + 2, none⟩ a2).setCell ⟨g, off + i * 5 + 3, none⟩ a3).setCell ⟨g, off + i * 5 + 4, none⟩ a4) :=
    (((((Upd.refl _ _).setCell (a := ⟨g, off + i * 5, none⟩) (Or.inl (by simp)) _).setCell (a := ⟨g, off + i * 5 + 1, none⟩) (Or.inl (by simp)) _).setCell (a := ⟨g, off + i * 5 + 2, none⟩) (Or.inl (by simp)) _).setCell (a := ⟨g, off + i * 5 + 3, none⟩) (Or.inl (by simp)) _).setCell (a := ⟨g, off + i * 5 + 4, none⟩) (Or.inl (by simp)) _
  refine ⟨⟨((((h.blk.set_other (fun e => hgc e.symm) _).set_other (fun e => hgc e.symm) _).set_other (fun e => hgc e.symm) _).set_other (fun e => hgc e.symm) _).set_other (fun e => hgc e.symm) _, ⟨((((xs.set (i * 5) a0).set (i * 5 + 1) a1).set (i * 5 + 2) a2).set (i * 5 + 3) a3).set (i * 5 + 4) a4, ?_, ?_⟩, h.ap, h.base, by rw [List.length_set]; exact h.small, fun x hx => ?_⟩, hU.mono (by simp [Value.ownBlock])⟩
  · rw [List.length_set]; exact x4
  · refine h2.put (fun _ _ => rfl) (by simp) (fun p hp => ?_) (fun j v hv => ?_)
    · repeat rw [List.getElem?_set_ne (by omega)]
    · rw [hs] at hv
      rcases j with _ | _ | _ | _ | _ | j <;> simp at hv
      · subst hv
        repeat rw [List.getElem?_set_ne (by omega)]
        rw [Nat.add_zero, List.getElem?_set_self (by omega)]
      · subst hv
        repeat rw [List.getElem?_set_ne (by omega)]
        rw [List.getElem?_set_self (by simp only [List.length_set]; omega)]
      · subst hv
        repeat rw [List.getElem?_set_ne (by omega)]
        rw [List.getElem?_set_self (by simp only [List.length_set]; omega)]
      · subst hv
        repeat rw [List.getElem?_set_ne (by omega)]
        rw [List.getElem?_set_self (by simp only [List.length_set]; omega)]
      · subst hv
        rw [List.getElem?_set_self (by simp only [List.length_set]; omega)]
  · rcases List.mem_or_eq_of_mem_set hx with h' | h'
    · exact h.fine x h'
    · subst h'; exact hf

theorem EntM.closed_fine {x : EntM} (h : x.fine) (hs : x.st = 1) : x.closed.fine := by
  obtain ⟨h1, h2, h3, h4⟩ := h
  have hg : x.closed.gen = x.gen + 1 := rfl
  have hst : x.closed.st = if 1048576 < x.gen + 1 then 2 else 0 := rfl
  refine ⟨by omega, by rcases h4 with h4 | h4 <;> omega, by rw [hst]; split <;> simp, ?_⟩
  rw [hst, hg]
  split
  · exact Or.inr rfl
  · left; omega

set_option maxHeartbeats 1000000 in
set_option maxRecDepth 100000 in
theorem rt_close {w : World} {base c : Nat} {v : Value} {t : TabM} (ix gen : Int) (h : RTab w base c v t) :
    Calls Try.prog 25 #[.pointer (some ⟨c, 0, none⟩), .agg #[.int .i64 ix, .int .i64 gen]] w fun e w' =>
      e = .returned (.int .i64 (t.look ix gen : Nat)) ∧ RPost w base c v (t.turn ix gen EntM.closed) w' := by
  have hU : Upd [] w (w.alloc (.cells #[.int .i64 ix, .int .i64 gen] 30)) := (Upd.refl _ _).alloc _
  have h1 := h.upd hU (by simp) (by simp)
  have hf := rt_look ix gen h1
  have hB := blk_new' w 30 #[.int .i64 ix, .int .i64 gen]
  go_enter Try.func25, Try.ntmps25
  go_wp2_with fail
  refine hf.mono ?_
  rintro e w2 ⟨rfl, hU2⟩
  have h2 := h1.upd hU2 (by simp) (by simp)
  have hB2 := hB.upd hU2 (by simp)
  by_cases hl : t.look ix gen = 0
  · obtain ⟨i, x, rfl, hx, hst, rfl⟩ := look_ok hl
    have hgot : t.turn i x.gen EntM.closed = t.set i x.closed := by unfold TabM.turn; rw [if_pos hl, Int.toNat_natCast, hx]
    have hcf := EntM.closed_fine (h.fine x (List.mem_of_getElem? hx)) hst
    obtain ⟨hx1, hx2, hx3, hx4⟩ := h.fine x (List.mem_of_getElem? hx)
    have hUd : Upd [] w w2.drew := (hU.trans_same hU2).drew
    have h3 : RTab w2.drew base c v t := h2.upd (Upd.refl [] w2).drew (by simp) (by simp)
    have hB3 : Blk w2.drew w.heap.size 30 _ := hB2
    obtain ⟨g, off, cap, hv, e0, e1, e2, e3, e4, hfz⟩ := h3.cells hx
    subst hv
    have b0 := h3.blk.cell (i := 0) rfl
    have k0 := hB3.cell (i := 0) rfl
    have hil := (List.getElem?_eq_some_iff.1 hx).1
    have eadd : (⟨g, off, none⟩ : Addr).add (i * 5) = ⟨g, off + i * 5, none⟩ := addr_add _ _ _
    have wg : IntKind.i64.wrap ((x.gen : Int) + 1) = (x.gen : Int) + 1 := IntWalk.i64_in _ (by omega)
    have hcR : entR i x.closed = [.bool (x.closed.st == 1), .bool (x.closed.st == 2), .int .i64 ((x.gen : Int) + 1), .int .i64 0, .int .i64 0] := rfl
    have hcs : x.closed.st = if (1048576 : Int) < (x.gen : Int) + 1 then 2 else 0 := by
      show (if 1048576 < x.gen + 1 then 2 else 0) = _
      by_cases hh : 1048576 < x.gen + 1
      · rw [if_pos hh, if_pos (by omega)]
      · rw [if_neg hh, if_neg (by omega)]
    rw [hl]
    clear hB hB2 h1 hx1 hx2 hx3 hx4 e0 e1 e3 e4 h2
    go_wp2_with fail
    obtain ⟨C, hC⟩ : ∃ C : World → Prop, C = fun w' => w'.cell? ⟨c, 0, none⟩ = some (.slice (some ⟨g, off, none⟩) t.length cap) ∧ w'.cell? ⟨w.heap.size, 0, none⟩ = some (.int .i64 i) ∧ w'.cell? ⟨g, off + i * 5 + 2, none⟩ = some (.int .i64 x.gen) := ⟨_, rfl⟩
    have hCo : ∀ w', C w' → w'.cell? ⟨c, 0, none⟩ = some (.slice (some ⟨g, off, none⟩) t.length cap) ∧ w'.cell? ⟨w.heap.size, 0, none⟩ = some (.int .i64 i) ∧ w'.cell? ⟨g, off + i * 5 + 2, none⟩ = some (.int .i64 x.gen) := fun w' h => by rw [hC] at h; exact h
    have hCi : ∀ w', w'.cell? ⟨c, 0, none⟩ = some (.slice (some ⟨g, off, none⟩) t.length cap) → w'.cell? ⟨w.heap.size, 0, none⟩ = some (.int .i64 i) → w'.cell? ⟨g, off + i * 5 + 2, none⟩ = some (.int .i64 x.gen) → C w' := fun w' h1 h2 h3 => by rw [hC]; exact ⟨h1, h2, h3⟩
    have hC0 : C w2.drew := hCi _ b0 k0 e2
    have cc1 : ∀ x : { w' // C w' }, x.1.cell? ⟨c, 0, none⟩ = some (.slice (some ⟨g, off, none⟩) t.length cap) := fun y => by obtain ⟨y, h⟩ := y; exact (hCo _ h).1
    have cc2 : ∀ y : { w' // C w' }, y.1.cell? ⟨w.heap.size, 0, none⟩ = some (.int .i64 i) := fun y => by obtain ⟨y, h⟩ := y; exact (hCo _ h).2.1
    have cc3 : ∀ y : { w' // C w' }, y.1.cell? ⟨g, off + i * 5 + 2, none⟩ = some (.int .i64 x.gen) := fun y => by obtain ⟨y, h⟩ := y; exact (hCo _ h).2.2
    haveI : Nonempty { w' // C w' } := ⟨⟨_, hC0⟩⟩
    refine wp_region_fxl C [11] [12] [3, 5, 8] rfl (by kernel_rfl) hC0 (fun M => ?_)
    clear b0 k0 e2
    generalize w2.drew = w3 at *
    refine wpFx_pure rfl (fun K hK => ?_); go_simp; refine hK _ ?_; clear hK K
    refine wpFx_pure rfl (fun K hK => ?_); go_simp; refine hK _ ?_; clear hK K
    refine wpFx_pure rfl (fun K hK => ?_); go_simp; refine hK _ ?_; clear hK K
    refine wpFx_load rfl rfl (fun K hK => ?_); go_simp; refine hK _ ?_; clear hK K
    refine wpFx_pure rfl (fun K hK => ?_); go_simp; refine hK _ ?_; clear hK K
    refine wpFx_load rfl rfl (fun K hK => ?_); go_simp; refine hK _ ?_; clear hK K
    refine wpFx_pure rfl (fun K hK => ?_); go_simp; refine hK _ ?_; clear hK K
    refine wpFx_pure rfl (fun K hK => ?_); go_simp; refine hK _ ?_; clear hK K
    refine wpFx_load rfl rfl (fun K hK => ?_); go_simp; refine hK _ ?_; clear hK K
    refine wpFx_pure rfl (fun K hK => ?_); go_simp; refine hK _ ?_; clear hK K
    refine wpFx_pure rfl (fun K hK => ?_); go_simp; refine hK _ ?_; clear hK K
    refine wpFx_es rfl rfl (fun K hK => ?_); go_simp
    have uw := (Upd.refl [] w3).alloc (.cells #[.bool false, .bool false, .int .i64 0, .int .i64 0, .int .i64 0] 66)
    refine hK _ _ (hCi _ (by rw [uw.cell (World.block_lt_of_cell? _ _ (hCo _ hC0).1) (by simp)]; exact (hCo _ hC0).1) (by rw [uw.cell (World.block_lt_of_cell? _ _ (hCo _ hC0).2.1) (by simp)]; exact (hCo _ hC0).2.1) (by rw [uw.cell (World.block_lt_of_cell? _ _ (hCo _ hC0).2.2) (by simp)]; exact (hCo _ hC0).2.2)) ?_
    clear hK K
    refine wpFx_et rfl rfl rfl (fun K hK => ?_); go_simp
    refine hK _ _ ?_; clear hK K
    refine wpFx_nil ?_
    clear hC0 hCi hCo hC cc1 cc2 cc3 uw
    generalize (x.gen : Int) + 1 = y at *
    have hHl := hB3.lt
    have hkX : Upd [] w3 (w3.alloc (.cells #[.bool false, .bool false, .int .i64 y, .int .i64 0, .int .i64 0] 66)) := (Upd.refl _ _).alloc _
    have hX := blk_new' w3 66 #[.bool false, .bool false, .int .i64 y, .int .i64 0, .int .i64 0]
    have Hcs := Lib.hid hcs
    have HcR := Lib.hid hcR
    have Hcf := Lib.hid hcf
    clear hcs hcR hcf
    have nlt := (h.vlt g rfl).2
    have nXg : w3.heap.size ≠ g := fun e => by have := (h3.vlt g rfl).2; omega
    have nXc : c ≠ w3.heap.size := fun e => by have := h3.lt; omega
    have nXH : w.heap.size ≠ w3.heap.size := fun e => by omega
    have h4 := h3.upd hkX (by simp) (by simp)
    have hB4 := hB3.upd hkX (by simp)
    have hU4 := hUd.trans_same hkX
    generalize w3.alloc (.cells #[.bool false, .bool false, .int .i64 y, .int .i64 0, .int .i64 0] 66) = w4 at *
    have hwX := hUd.size
    generalize w3.heap.size = X at *
    clear hkX h3 hB3 hUd
    by_cases hbig : (1048576 : Int) < y
    · have hst' : x.closed.st = 2 := by rw [Hcs.out]; exact if_pos hbig
      have hR : entR i x.closed = [.bool false, .bool true, .int .i64 y, .int .i64 0, .int .i64 0] := by rw [HcR.out, hst']; rfl
      have x2 := hX.cell (i := 2) rfl
      have xf := hX.frozen 1
      have x1 := hX.cell (i := 1) rfl
      go_wp2_with fail
      have kX : Upd [X] w4 (w4.setCell ⟨X, 1, none⟩ (.bool true)) := (Upd.refl _ _).setCell (Or.inl (by simp)) _
      have h5 := h4.upd kX (by simp; exact nXc) (fun q hq => by simp [Value.ownBlock] at hq; subst hq; simp; exact fun e => nXg e.symm)
      have hB5 := hB4.upd kX (by simp; exact nXH)
      have hX5 := hX.set 1 (.bool true)
      generalize w4.setCell ⟨X, 1, none⟩ (.bool true) = w5 at *
      have y0 := hX5.cell (i := 0) rfl
      have y1 := hX5.cell (i := 1) rfl
      have y2 := hX5.cell (i := 2) rfl
      have y3 := hX5.cell (i := 3) rfl
      have y4 := hX5.cell (i := 4) rfl
      have b5 := h5.blk.cell (i := 0) rfl
      have k5 := hB5.cell (i := 0) rfl
      obtain ⟨g', off', cap', hv', e0, e1, e2, e3, e4, hfz⟩ := h5.cells hx
      cases hv'
      have f0 := hfz (off + i * 5)
      have f1 := hfz (off + i * 5 + 1)
      have f2 := hfz (off + i * 5 + 2)
      have f3 := hfz (off + i * 5 + 3)
      have f4 := hfz (off + i * 5 + 4)
      have pp := h5.store hx hR Hcf.out
      have hUp : Upd (c :: (Value.slice (some ⟨g, off, none⟩) t.length cap).ownBlock.toList) w w5 := (hU4.trans (fun q hq => Or.inr (by simp at hq; subst hq; exact hwX)) kX).mono (by simp)
      clear hfz h5 hB5 hX5
      refine wp_region_tail 8 (by kernel_rfl) (by kernel_rfl) ?_
      simp only [List.take_succ_cons, List.take_zero, List.drop_succ_cons, List.drop_zero]
      repeat still_step
      refine wpStill_nil ?_
      go_wp2_with fail
      go_ret
      refine ⟨by rw [hl]; rfl, ?_⟩
      rw [hgot]
      exact ⟨pp.1.upd (Upd.refl [] _).drew (by simp) (by simp), (hUp.trans_same pp.2).drew⟩
    · have hst' : x.closed.st = 0 := by rw [Hcs.out]; exact if_neg hbig
      have hR : entR i x.closed = [.bool false, .bool false, .int .i64 y, .int .i64 0, .int .i64 0] := by rw [HcR.out, hst']; rfl
      have x2 := hX.cell (i := 2) rfl
      go_wp2_with fail
      have y0 := hX.cell (i := 0) rfl
      have y1 := hX.cell (i := 1) rfl
      have y2 := hX.cell (i := 2) rfl
      have y3 := hX.cell (i := 3) rfl
      have y4 := hX.cell (i := 4) rfl
      have b5 := h4.blk.cell (i := 0) rfl
      have k5 := hB4.cell (i := 0) rfl
      obtain ⟨g', off', cap', hv', e0, e1, e2, e3, e4, hfz⟩ := h4.cells hx
      cases hv'
      have f0 := hfz (off + i * 5)
      have f1 := hfz (off + i * 5 + 1)
      have f2 := hfz (off + i * 5 + 2)
      have f3 := hfz (off + i * 5 + 3)
      have f4 := hfz (off + i * 5 + 4)
      have pp := h4.store hx hR Hcf.out
      have hUp : Upd (c :: (Value.slice (some ⟨g, off, none⟩) t.length cap).ownBlock.toList) w w4 := hU4.mono (by simp)
      clear hfz h4 hB4 hX
      refine wp_region_tail 8 (by kernel_rfl) (by kernel_rfl) ?_
      simp only [List.take_succ_cons, List.take_zero, List.drop_succ_cons, List.drop_zero]
      repeat still_step
      refine wpStill_nil ?_
      go_wp2_with fail
      go_ret
      refine ⟨by rw [hl]; rfl, ?_⟩
      rw [hgot]
      exact ⟨pp.1.upd (Upd.refl [] _).drew (by simp) (by simp), (hUp.trans_same pp.2).drew⟩
  · have hgot : t.turn ix gen EntM.closed = t := by unfold TabM.turn; rw [if_neg hl]
    have hl0 : ¬ ((t.look ix gen : Nat) : Int) = 0 := by omega
    go_wp2_with fail
    go_ret
    refine ⟨rfl, ?_⟩
    rw [hgot]
    exact ⟨h2, (hU.trans_same hU2).mono (by simp)⟩

end Go.Proofs.Ytfejlokinopjbaa
