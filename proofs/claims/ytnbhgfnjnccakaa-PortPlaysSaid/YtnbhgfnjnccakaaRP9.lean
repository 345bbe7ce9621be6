/- A datagram taken, by the port and by the document's one (written by gen_rp9.py). -/
import Derived.Test.YtnbhgfnjnccakaaRP8
import Derived.Test.YtnbhgfnjnccakaaRebox
namespace Go.Proofs.Ytnbhgfnjnccakaa
open Go Go.RowKit
set_option linter.unusedVariables false

/-- Bytes made of a string lie in a new block. -/
theorem conv_grows {w w' : World} {bs : List UInt8} {c : Nat} (h : (convert 9 35 (.string (strB bs))).run Try.prog w = .ok (.slice (some ⟨w.heap.size, 0, none⟩) bs.length c) w') : w.heap.size < w'.heap.size := by
  have h2 := Lib.run_convert_string_bytes (P := Try.prog) w 9 35 5 (strB bs) Try.underlying9 Try.underlying35 Try.underlying5
  rw [h] at h2
  injection h2 with _ e
  rw [e, Lib.bytesWorld_size]
  omega

def PortM.boxed (p : PortM) (bs : List UInt8) : PortM := { p with box := p.box ++ [bs] }

theorem PPost.pre {w w1 w2 : World} {base b : Nat} {l : PLay} {p' : PortM} (h : PPost w1 base b l p' w2) (hu : Upd [] w w1) : PPost w base b l p' w2 := by
  obtain ⟨l', hP, hU, hW⟩ := h
  exact ⟨l', hP, (hu.mono (by simp)).trans_same hU, fun q hq => (hW q hq).imp id (fun h => Nat.le_trans hu.size h)⟩

section
variable {w w1 : World} {base b : Nat} {l : PLay} {p : PortM}

set_option maxHeartbeats 2000000 in
set_option maxRecDepth 100000 in
theorem gram_ok (n : Int) (bs : List UInt8) (ra : Option Addr) (rl rc : Nat) (h : PortAt w base b l p) (hbl : bs.length ≤ 512) (hbx : p.box.length < 8) :
    Calls Try.prog 56 #[.pointer (some ⟨b, 0, none⟩), evV 8 p.ends.length n bs ra rl rc] w fun e w' => e = .returned (.int .i64 0) ∧ PPost w base b l (p.boxed bs) w' := by
  unfold evV
  have hX := blk_new' w 34 #[.int .i64 8, .int .i64 p.ends.length, .int .i64 n, .string (strB bs), .slice ra rl rc]
  have k1 : Upd [] w (w.alloc (.cells #[.int .i64 8, .int .i64 p.ends.length, .int .i64 n, .string (strB bs), .slice ra rl rc] 34)) := (Upd.refl _ _).alloc _
  have h1 := h.upd k1 (by simp)
  obtain ⟨aoe, coe, hvl⟩ := h.vlShape
  obtain ⟨ys0, hbo, _⟩ := h.box
  obtain ⟨bo, bc, hvb⟩ := hbo.shape
  have b1 := h1.blk.cell (i := 1) rfl
  have b2 := h1.blk.cell (i := 2) rfl
  rw [hvl] at b1
  rw [hvb] at b2
  have x0 := hX.cell (i := 0) rfl
  have x1 := hX.cell (i := 1) rfl
  have x3 := hX.cell (i := 3) rfl
  have hz : (strB bs).size = bs.length := rfl
  have hsm := h.small
  have hb1 : ¬ 512 < bs.length := by omega
  have hb2 : ¬ 8 ≤ p.box.length := by omega
  have hd : decide (512 < bs.length) = false := decide_eq_false (by omega)
  have hd' : decide ((512 : Int) < (bs.length : Int)) = false := decide_eq_false (by omega)
  have hXf := h.fresh (q := w.heap.size) (Nat.le_refl _)
  go_enter Try.func56, Try.ntmps56
  go_wp2_with fail
  go_quiet (fail)
  go_wp2_with fail
  have h2 : PortAt (((w.alloc (.cells #[.int .i64 8, .int .i64 p.ends.length, .int .i64 n, .string (strB bs), .slice ra rl rc] 34))).drewN nq).drew base b l p := h1.upd (((Upd.refl [] _).drewN nq).drew) (by simp)
  have k2 : Upd [] w (((w.alloc (.cells #[.int .i64 8, .int .i64 p.ends.length, .int .i64 n, .string (strB bs), .slice ra rl rc] 34))).drewN nq).drew := (k1.drewN nq).drew
  obtain ⟨C, hC⟩ : ∃ C : World → Prop, C = fun w' => w'.cell? ⟨b, 2, none⟩ = some (.slice bo p.box.length bc) ∧ w'.cell? ⟨w.heap.size, 3, none⟩ = some (.string (strB bs)) := ⟨_, rfl⟩
  have hCo : ∀ w', C w' → w'.cell? ⟨b, 2, none⟩ = some (.slice bo p.box.length bc) ∧ w'.cell? ⟨w.heap.size, 3, none⟩ = some (.string (strB bs)) := fun w' h => by rw [hC] at h; exact h
  have hCi : ∀ w', w'.cell? ⟨b, 2, none⟩ = some (.slice bo p.box.length bc) → w'.cell? ⟨w.heap.size, 3, none⟩ = some (.string (strB bs)) → C w' := fun w' h1 h2 => by rw [hC]; exact ⟨h1, h2⟩
  have hC0 : C (((w.alloc (.cells #[.int .i64 8, .int .i64 p.ends.length, .int .i64 n, .string (strB bs), .slice ra rl rc] 34))).drewN nq).drew := hCi _ b2 x3
  have cc1 : ∀ x : { w' // C w' }, x.1.cell? ⟨b, 2, none⟩ = some (.slice bo p.box.length bc) := fun y => (hCo _ y.2).1
  have cc2 : ∀ y : { w' // C w' }, y.1.cell? ⟨w.heap.size, 3, none⟩ = some (.string (strB bs)) := fun y => (hCo _ y.2).2
  haveI : Nonempty { w' // C w' } := ⟨⟨_, hC0⟩⟩
  refine wp_region_fxl C [7, 8, 9] [12] [4, 6] rfl (by kernel_rfl) hC0 (fun M => ?_)
  clear h1 k1 hX x0 x1 x3 b1 b2
  generalize hW : (((w.alloc (.cells #[.int .i64 8, .int .i64 p.ends.length, .int .i64 n, .string (strB bs), .slice ra rl rc] 34))).drewN nq).drew = w2 at *
  refine wpFx_pure rfl (fun K hK => ?_); go_simp; refine hK _ ?_; clear hK K
  refine wpFx_pure rfl (fun K hK => ?_); go_simp; refine hK _ ?_; clear hK K
  refine wpFx_pure rfl (fun K hK => ?_); go_simp; refine hK _ ?_; clear hK K
  refine wpFx_pure rfl (fun K hK => ?_); go_simp; refine hK _ ?_; clear hK K
  refine wpFx_load rfl rfl (fun K hK => ?_); go_simp; refine hK _ ?_; clear hK K
  refine wpFx_pure rfl (fun K hK => ?_); go_simp; refine hK _ ?_; clear hK K
  refine wpFx_load rfl rfl (fun K hK => ?_); go_simp; refine hK _ ?_; clear hK K
  obtain ⟨cc, w3, hcv, hrd, hku⟩ := conv_bytes w2 bs (by omega)
  have kk : ∀ {u v : World}, C u → Upd [] u v → C v := fun hu hv => hCi _ (by rw [hv.cell (World.block_lt_of_cell? _ _ (hCo _ hu).1) (by simp)]; exact (hCo _ hu).1) (by rw [hv.cell (World.block_lt_of_cell? _ _ (hCo _ hu).2) (by simp)]; exact (hCo _ hu).2)
  refine wpFx_es rfl rfl (fun K hK => ?_); go_simp
  have hC3 := kk hC0 hku
  refine hK _ _ hC3 ?_; clear hK K
  have hYl := conv_grows hcv
  clear hcv hC0
  refine wpFx_es rfl rfl (fun K hK => ?_); go_simp
  have k4 : Upd [] w3 (w3.alloc (.cells #[.slice (some ⟨w2.heap.size, 0, none⟩) bs.length cc] 35)) := (Upd.refl _ _).alloc _
  have hN := blk_new' w3 35 #[.slice (some ⟨w2.heap.size, 0, none⟩) bs.length cc]
  have hC4 := kk hC3 k4
  refine hK _ _ hC4 ?_; clear hK K
  have h4 := (h2.upd hku (by simp)).upd k4 (by simp)
  have k24 := hku.trans_same k4
  have hrd4 := hrd.upd k4 (by simp)
  obtain ⟨ys4, hbo4, hel4⟩ := h4.box
  rw [hvb] at hbo4
  have hys4 := hbo4.len
  have hs4 := k4.size
  have hbs4 : base ≤ (w3.alloc (.cells #[.slice (some ⟨w2.heap.size, 0, none⟩) bs.length cc] 35)).heap.size := by have := h4.blk.lt; have := h4.tb.1; omega
  have hbs2 : base ≤ w2.heap.size := by have := h2.blk.lt; have := h2.tb.1; omega
  clear hC3
  generalize hYe : w2.heap.size = Y at *
  generalize (w3.alloc (.cells #[.slice (some ⟨Y, 0, none⟩) bs.length cc] 35)) = w4 at *
  refine wpFx_es rfl rfl (fun K hK => ?_)
  with_reducible refine wp_append_genE (.tmp 31) (.tmp 35) 93 93 rfl 35 (.slice none 0 0) 1 24 Try.underlying93 Try.infoBytes rfl base ?a1 (.slice bo p.box.length bc) p.box.length ys4 rfl ?a2 _ 1 [.slice (some ⟨Y, 0, none⟩) bs.length cc] rfl ?a3 ?a4 ?a5 (by decide) ?a6
  case a1 => exact hbs4
  case a2 => exact hbo4
  case a3 => exact Src.ofSlice _ Try.underlying93 ⟨_, 0, none⟩ _ _ _ (by simp) (fun j u hj => by rw [addr_add, Nat.zero_add]; exact hN.cell hj) (by intro u hu; simp at hu; subst hu; rfl)
  case a4 => unfold maxLen; omega
  case a5 => omega
  case a6 =>
    intro v' w5 hown5 hU5 hblk5
    have hnb : b ∉ (Value.slice bo p.box.length bc).ownBlock.toList := fun hq => (h4.tx b (by rw [hvb]; exact mem_ownP hq)).ne h4.tb (by decide) rfl
    have hnX : w.heap.size ∉ (Value.slice bo p.box.length bc).ownBlock.toList := fun hq => hXf (h.tx _ (by rw [hvb]; exact mem_ownP hq)).2.2
    have hnY : Y ∉ (Value.slice bo p.box.length bc).ownBlock.toList := fun hq => by
      have := h2.lt _ (h2.tx Y (by rw [hvb]; exact mem_ownP hq)).2.2; omega
    have hb5 := h4.blk.upd hU5 hnb
    have cb := hb5.cell (i := 2) rfl
    have cf := hb5.frozen 2
    rw [hvb] at cb
    refine hK _ _ (hCi _ cb (by rw [hU5.cell (World.block_lt_of_cell? _ _ (hCo _ hC4).2) hnX]; exact (hCo _ hC4).2)) ?_
    clear hK K
    have hrd5 := hrd4.upd hU5 (fun q hq => by simp [Value.ownBlock] at hq; subst hq; exact hnY)
    have hs5 := hU5.size
    have hR := h2.rebox (v' := v') (ys' := ys4 ++ [.slice (some ⟨Y, 0, none⟩) bs.length cc]) (box' := p.box ++ [bs]) (news := [Y]) (wa := w4) (w1 := w5) (w2 := w5.setCell ⟨b, 2, none⟩ v') k24 (by rw [hvb]; exact hU5) (by rw [List.length_append]; exact Or.inl hown5)
      (fun q hq => by
        rcases hblk5 q hq with h' | h'
        · exact Or.inl (by rw [hvb]; exact h')
        · exact Or.inr (by have := k24.size; omega))
      (fun i bs' hi hsz => by
        by_cases hil : i < p.box.length
        · rw [List.getElem?_append_left hil] at hi
          obtain ⟨v, e1, e2, e3⟩ := hel4 i bs' hi hsz
          exact ⟨v, by rw [List.getElem?_append_left (by omega)]; exact e1, e2.upd hU5 (fun q hq hq' => (e3 q hq).ne (h4.tx q (by rw [hvb]; exact mem_ownP hq')) (by decide) rfl), fun q hq => Or.inl (e3 q hq)⟩
        · have hle : i = p.box.length := by
            have := (List.getElem?_eq_some_iff.1 hi).1
            rw [List.length_append] at this; simp at this; omega
          subst hle
          rw [List.getElem?_append_right (Nat.le_refl _), Nat.sub_self] at hi
          cases hi
          exact ⟨_, by rw [List.getElem?_append_right (by omega), show p.box.length - ys4.length = 0 by omega]; rfl, hrd5, fun q hq => Or.inr (by simp [Value.ownBlock] at hq; simp [hq])⟩)
      (fun q hq => by
        simp at hq; subst hq
        refine ⟨hbs2, Nat.le_of_eq hYe, by omega, fun e => ?_⟩
        rcases hblk5 _ e with h' | h'
        · exact hnY (by rw [h']; simp)
        · omega)
      (by rw [List.length_append]; simp; omega) rfl
    obtain ⟨ao', co', rfl⟩ := hown5.shape
    clear hown5 hU5 hblk5 hnb hnX hnY hrd5
    go_simp
    refine wpFx_pure rfl (fun K hK => ?_); go_simp; refine hK _ ?_; clear hK K
    refine wpFx_pure rfl (fun K hK => ?_); go_simp; refine hK _ ?_; clear hK K
    refine wpFx_et rfl rfl rfl (fun K hK => ?_); go_simp
    refine hK _ _ ?_; clear hK K
    refine wpFx_nil ?_
    go_wp2_with fail
    go_ret
    exact ⟨rfl, PPost.pre ⟨_, hR.1, hR.2.1, hR.2.2⟩ k2⟩
end

section
variable {w w1 : World} {base c : Nat} {L : XLay} {p : PortM}

set_option maxHeartbeats 2000000 in
set_option maxRecDepth 100000 in
theorem rv_gram_ok (n : Int) (bs : List UInt8) (ra : Option Addr) (rl rc : Nat) (h : RPortAt w base c L p) (hbl : bs.length ≤ 512) (hbx : p.box.length < 8) :
    Calls Try.prog 45 #[.pointer (some ⟨c, 0, none⟩), evV 8 p.ends.length n bs ra rl rc] w (REvPost w base c L 0 0 (p.boxed bs)) := by
  unfold evV
  have hX := blk_new' w 34 #[.int .i64 8, .int .i64 p.ends.length, .int .i64 n, .string (strB bs), .slice ra rl rc]
  have k1 : Upd [] w (w.alloc (.cells #[.int .i64 8, .int .i64 p.ends.length, .int .i64 n, .string (strB bs), .slice ra rl rc] 34)) := (Upd.refl _ _).alloc _
  have h1 := h.upd k1 (by simp)
  obtain ⟨aoe, coe, hvl⟩ := h.veShape
  obtain ⟨ys0, hbo, _⟩ := h.box
  obtain ⟨bo, bc, hvb⟩ := hbo.shape
  have b1 := h1.blk.cell (i := 2) rfl
  have b2 := h1.blk.cell (i := 3) rfl
  rw [hvl] at b1
  rw [hvb] at b2
  have x0 := hX.cell (i := 0) rfl
  have x1 := hX.cell (i := 1) rfl
  have x3 := hX.cell (i := 3) rfl
  have hz : (strB bs).size = bs.length := rfl
  have hsm := h.small
  have hb1 : ¬ 512 < bs.length := by omega
  have hb2 : ¬ 8 ≤ p.box.length := by omega
  have hd : decide (512 < bs.length) = false := decide_eq_false (by omega)
  have hd' : decide ((512 : Int) < (bs.length : Int)) = false := decide_eq_false (by omega)
  have hXf := h.fresh (q := w.heap.size) (Nat.le_refl _)
  go_enter Try.func45, Try.ntmps45
  go_wp2_with fail
  have h2 : RPortAt ((w.alloc (.cells #[.int .i64 8, .int .i64 p.ends.length, .int .i64 n, .string (strB bs), .slice ra rl rc] 34))).drew base c L p := h1.upd ((Upd.refl [] _).drew) (by simp)
  have k2 : Upd [] w ((w.alloc (.cells #[.int .i64 8, .int .i64 p.ends.length, .int .i64 n, .string (strB bs), .slice ra rl rc] 34))).drew := k1.drew
  obtain ⟨C, hC⟩ : ∃ C : World → Prop, C = fun w' => w'.cell? ⟨c, 3, none⟩ = some (.slice bo p.box.length bc) ∧ w'.cell? ⟨w.heap.size, 3, none⟩ = some (.string (strB bs)) := ⟨_, rfl⟩
  have hCo : ∀ w', C w' → w'.cell? ⟨c, 3, none⟩ = some (.slice bo p.box.length bc) ∧ w'.cell? ⟨w.heap.size, 3, none⟩ = some (.string (strB bs)) := fun w' h => by rw [hC] at h; exact h
  have hCi : ∀ w', w'.cell? ⟨c, 3, none⟩ = some (.slice bo p.box.length bc) → w'.cell? ⟨w.heap.size, 3, none⟩ = some (.string (strB bs)) → C w' := fun w' h1 h2 => by rw [hC]; exact ⟨h1, h2⟩
  have hC0 : C ((w.alloc (.cells #[.int .i64 8, .int .i64 p.ends.length, .int .i64 n, .string (strB bs), .slice ra rl rc] 34))).drew := hCi _ b2 x3
  have cc1 : ∀ x : { w' // C w' }, x.1.cell? ⟨c, 3, none⟩ = some (.slice bo p.box.length bc) := fun y => (hCo _ y.2).1
  have cc2 : ∀ y : { w' // C w' }, y.1.cell? ⟨w.heap.size, 3, none⟩ = some (.string (strB bs)) := fun y => (hCo _ y.2).2
  haveI : Nonempty { w' // C w' } := ⟨⟨_, hC0⟩⟩
  refine wp_region_fxl C [7, 8, 9] [12] [4, 6] rfl (by kernel_rfl) hC0 (fun M => ?_)
  clear h1 k1 hX x0 x1 x3 b1 b2
  generalize hW : ((w.alloc (.cells #[.int .i64 8, .int .i64 p.ends.length, .int .i64 n, .string (strB bs), .slice ra rl rc] 34))).drew = w2 at *
  refine wpFx_pure rfl (fun K hK => ?_); go_simp; refine hK _ ?_; clear hK K
  refine wpFx_pure rfl (fun K hK => ?_); go_simp; refine hK _ ?_; clear hK K
  refine wpFx_pure rfl (fun K hK => ?_); go_simp; refine hK _ ?_; clear hK K
  refine wpFx_pure rfl (fun K hK => ?_); go_simp; refine hK _ ?_; clear hK K
  refine wpFx_load rfl rfl (fun K hK => ?_); go_simp; refine hK _ ?_; clear hK K
  refine wpFx_pure rfl (fun K hK => ?_); go_simp; refine hK _ ?_; clear hK K
  refine wpFx_load rfl rfl (fun K hK => ?_); go_simp; refine hK _ ?_; clear hK K
  obtain ⟨cc, w3, hcv, hrd, hku⟩ := conv_bytes w2 bs (by omega)
  have kk : ∀ {u v : World}, C u → Upd [] u v → C v := fun hu hv => hCi _ (by rw [hv.cell (World.block_lt_of_cell? _ _ (hCo _ hu).1) (by simp)]; exact (hCo _ hu).1) (by rw [hv.cell (World.block_lt_of_cell? _ _ (hCo _ hu).2) (by simp)]; exact (hCo _ hu).2)
  refine wpFx_es rfl rfl (fun K hK => ?_); go_simp
  have hC3 := kk hC0 hku
  refine hK _ _ hC3 ?_; clear hK K
  have hYl := conv_grows hcv
  clear hcv hC0
  refine wpFx_es rfl rfl (fun K hK => ?_); go_simp
  have k4 : Upd [] w3 (w3.alloc (.cells #[.slice (some ⟨w2.heap.size, 0, none⟩) bs.length cc] 35)) := (Upd.refl _ _).alloc _
  have hN := blk_new' w3 35 #[.slice (some ⟨w2.heap.size, 0, none⟩) bs.length cc]
  have hC4 := kk hC3 k4
  refine hK _ _ hC4 ?_; clear hK K
  have h4 := (h2.upd hku (by simp)).upd k4 (by simp)
  have k24 := hku.trans_same k4
  have hrd4 := hrd.upd k4 (by simp)
  obtain ⟨ys4, hbo4, hel4⟩ := h4.box
  rw [hvb] at hbo4
  have hys4 := hbo4.len
  have hs4 := k4.size
  have hbs4 : base ≤ (w3.alloc (.cells #[.slice (some ⟨w2.heap.size, 0, none⟩) bs.length cc] 35)).heap.size := by have := h4.blk.lt; have := h4.tb.1; omega
  have hbs2 : base ≤ w2.heap.size := by have := h2.blk.lt; have := h2.tb.1; omega
  clear hC3
  generalize hYe : w2.heap.size = Y at *
  generalize (w3.alloc (.cells #[.slice (some ⟨Y, 0, none⟩) bs.length cc] 35)) = w4 at *
  refine wpFx_es rfl rfl (fun K hK => ?_)
  with_reducible refine wp_append_genE (.tmp 242) (.tmp 246) 93 93 rfl 35 (.slice none 0 0) 1 24 Try.underlying93 Try.infoBytes rfl base ?a1 (.slice bo p.box.length bc) p.box.length ys4 rfl ?a2 _ 1 [.slice (some ⟨Y, 0, none⟩) bs.length cc] rfl ?a3 ?a4 ?a5 (by decide) ?a6
  case a1 => exact hbs4
  case a2 => exact hbo4
  case a3 => exact Src.ofSlice _ Try.underlying93 ⟨_, 0, none⟩ _ _ _ (by simp) (fun j u hj => by rw [addr_add, Nat.zero_add]; exact hN.cell hj) (by intro u hu; simp at hu; subst hu; rfl)
  case a4 => unfold maxLen; omega
  case a5 => omega
  case a6 =>
    intro v' w5 hown5 hU5 hblk5
    have hnb : c ∉ (Value.slice bo p.box.length bc).ownBlock.toList := fun hq => (h4.tx c (by rw [hvb]; exact mem_ownP hq)).ne h4.tb (by decide) rfl
    have hnX : w.heap.size ∉ (Value.slice bo p.box.length bc).ownBlock.toList := fun hq => hXf (h.tx _ (by rw [hvb]; exact mem_ownP hq)).2.2
    have hnY : Y ∉ (Value.slice bo p.box.length bc).ownBlock.toList := fun hq => by
      have := h2.lt _ (h2.tx Y (by rw [hvb]; exact mem_ownP hq)).2.2; omega
    have hb5 := h4.blk.upd hU5 hnb
    have cb := hb5.cell (i := 3) rfl
    have cf := hb5.frozen 3
    rw [hvb] at cb
    refine hK _ _ (hCi _ cb (by rw [hU5.cell (World.block_lt_of_cell? _ _ (hCo _ hC4).2) hnX]; exact (hCo _ hC4).2)) ?_
    clear hK K
    have hrd5 := hrd4.upd hU5 (fun q hq => by simp [Value.ownBlock] at hq; subst hq; exact hnY)
    have hs5 := hU5.size
    have hR := h2.rebox (v' := v') (ys' := ys4 ++ [.slice (some ⟨Y, 0, none⟩) bs.length cc]) (box' := p.box ++ [bs]) (news := [Y]) (wa := w4) (w1 := w5) (w2 := w5.setCell ⟨c, 3, none⟩ v') k24 (by rw [hvb]; exact hU5) (by rw [List.length_append]; exact Or.inl hown5)
      (fun q hq => by
        rcases hblk5 q hq with h' | h'
        · exact Or.inl (by rw [hvb]; exact h')
        · exact Or.inr (by have := k24.size; omega))
      (fun i bs' hi => by
        by_cases hil : i < p.box.length
        · rw [List.getElem?_append_left hil] at hi
          obtain ⟨v, e1, e2, e3⟩ := hel4 i bs' hi
          exact ⟨v, by rw [List.getElem?_append_left (by omega)]; exact e1, e2.upd hU5 (fun q hq hq' => (e3 q hq).ne (h4.tx q (by rw [hvb]; exact mem_ownP hq')) (by decide) rfl), fun q hq => Or.inl (e3 q hq)⟩
        · have hle : i = p.box.length := by
            have := (List.getElem?_eq_some_iff.1 hi).1
            rw [List.length_append] at this; simp at this; omega
          subst hle
          rw [List.getElem?_append_right (Nat.le_refl _), Nat.sub_self] at hi
          cases hi
          exact ⟨_, by rw [List.getElem?_append_right (by omega), show p.box.length - ys4.length = 0 by omega]; rfl, hrd5, fun q hq => Or.inr (by simp [Value.ownBlock] at hq; simp [hq])⟩)
      (fun q hq => by
        simp at hq; subst hq
        refine ⟨hbs2, Nat.le_of_eq hYe, by omega, fun e => ?_⟩
        rcases hblk5 _ e with h' | h'
        · exact hnY (by rw [h']; simp)
        · omega)
      (by rw [List.length_append]; simp; omega) rfl
    obtain ⟨ao', co', rfl⟩ := hown5.shape
    clear hown5 hU5 hblk5 hnb hnX hnY hrd5
    go_simp
    refine wpFx_pure rfl (fun K hK => ?_); go_simp; refine hK _ ?_; clear hK K
    refine wpFx_pure rfl (fun K hK => ?_); go_simp; refine hK _ ?_; clear hK K
    refine wpFx_et rfl rfl rfl (fun K hK => ?_); go_simp
    refine hK _ _ ?_; clear hK K
    refine wpFx_nil ?_
    go_wp2_with fail
    go_ret2
    exact ⟨rfl, RPost.pre (RPost.mk' hR.1 hR.2.1 hR.2.2) k2⟩
end

end Go.Proofs.Ytnbhgfnjnccakaa
