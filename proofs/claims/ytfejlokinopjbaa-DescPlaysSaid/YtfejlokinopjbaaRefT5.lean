/- The walks of the document's table: Open, Age. -/
import Derived.Test.YtfejlokinopjbaaRefT4
namespace Go.Proofs.Ytfejlokinopjbaa
open Go Go.RowKit
set_option linter.unusedVariables false

set_option maxHeartbeats 1000000 in
set_option maxRecDepth 100000 in
theorem rt_open {w : World} {base c : Nat} {v : Value} {t : TabM} (kind num : Int) (h : RTab w base c v t) :
    Calls Try.prog 24 #[.pointer (some ⟨c, 0, none⟩), .int .i64 kind, .int .i64 num] w fun e w' =>
      e = .returned (.tuple #[.agg #[.int .i64 t.openH.1, .int .i64 t.openH.2], .int .i64 (t.openE : Nat)]) ∧ RPost w base c v (t.openT kind num) w' := by
  have hU : Upd [] w (w.alloc (.cells #[.int .i64 0, .int .i64 0] 30)) := (Upd.refl _ _).alloc _
  have h1 := h.upd hU (by simp) (by simp)
  have hB := blk_new' w 30 #[.int .i64 0, .int .i64 0]
  have b0 := h1.blk.cell (i := 0) rfl
  have hsm := h.small
  have hlw := h.lt
  have hvw := h.vlt
  obtain ⟨ao, co, rfl⟩ := h.shape
  go_enter Try.func24, Try.ntmps24
  go_wp2_with fail
  generalize hr : w.heap.size = rb at *
  generalize w.alloc (.cells #[.int .i64 0, .int .i64 0] 30) = w1 at *
  go_loopw [8] (fun i wr => ∃ k : Nat, k ≤ t.length ∧ i = .int .i64 k ∧ (∀ j x, j < k → t[j]? = some x → x.st ≠ 0) ∧ wr = w1) (fun i _ => t.length - (intOf i).toNat)
  case atStart => exact ⟨0, Nat.zero_le _, rfl, fun j x hj => absurd hj (Nat.not_lt_zero _), rfl⟩
  case round =>
    obtain ⟨k, hk, rfl, hall, rfl⟩ := hrel
    by_cases hlt : k < t.length
    · obtain ⟨x, hx⟩ : ∃ x, t[k]? = some x := ⟨t[k], List.getElem?_eq_getElem hlt⟩
      obtain ⟨g, off, cap, hv, e0, e1, e2, e3, e4, hfz⟩ := h1.cells hx
      cases hv
      have eadd : (⟨g, off, none⟩ : Addr).add (k * 5) = ⟨g, off + k * 5, none⟩ := addr_add _ _ _
      have hxf := h.fine x (List.mem_of_getElem? hx)
      by_cases hst : x.st = 0
      · have hfr : t.freeIx = k := by
          unfold TabM.freeIx
          have hk' := (List.getElem?_eq_some_iff.1 hx)
          obtain ⟨hk1, hk2⟩ := hk'
          refine (List.findIdx_eq hk1).2 ⟨by rw [hk2, hst]; rfl, fun j hj => ?_⟩
          have := hall j t[j] hj (List.getElem?_eq_getElem (by omega))
          simpa using this
        have hE : t.openE = 0 := by unfold TabM.openE; rw [hfr, if_pos hlt]
        have hH : t.openH = ((k : Int), (x.gen : Int)) := by unfold TabM.openH; rw [hfr, hx]
        have hT : t.openT kind num = t.set k (x.opened kind num) := by unfold TabM.openT; rw [hfr, hx]
        have s0 : (x.st == 1) = false := by rw [hst]; rfl
        have s1 : (x.st == 2) = false := by rw [hst]; rfl
        rw [s0] at e0
        rw [s1] at e1
        have hf1 : EntM.fine { x with st := 1 } := by
          obtain ⟨q1, q2, q3, q4⟩ := hxf
          exact ⟨q1, q2, by simp, by rcases q4 with q4 | q4; exact Or.inl q4; omega⟩
        have f0 := hfz (off + k * 5)
        have f3 := hfz (off + k * 5 + 3)
        have f4 := hfz (off + k * 5 + 4)
        have hgl := (hvw g rfl).2
        have n1 : g ≠ c := h.ap g rfl
        have n2 : c ≠ g := fun e => n1 e.symm
        have n3 : rb ≠ g := by omega
        have n5 : rb ≠ c := by omega
        have n6 : c ≠ rb := by omega
        clear hall
        go_wp2_with fail
        obtain ⟨C, hC⟩ : ∃ C : World → Prop, C = fun w' => w'.cell? ⟨c, 0, none⟩ = some (.slice (some ⟨g, off, none⟩) t.length co) := ⟨_, rfl⟩
        have hCo : ∀ w', C w' → w'.cell? ⟨c, 0, none⟩ = some (.slice (some ⟨g, off, none⟩) t.length co) := fun w' h => by rw [hC] at h; exact h
        have hCi : ∀ w', w'.cell? ⟨c, 0, none⟩ = some (.slice (some ⟨g, off, none⟩) t.length co) → C w' := fun w' h => by rw [hC]; exact h
        have hC0 : C wr.drew := hCi _ b0
        have cc1 : ∀ x : { w' // C w' }, x.1.cell? ⟨c, 0, none⟩ = some (.slice (some ⟨g, off, none⟩) t.length co) := fun y => by obtain ⟨y, h⟩ := y; exact hCo _ h
        haveI : Nonempty { w' // C w' } := ⟨⟨_, hC0⟩⟩
        refine wp_region_fxl C [19, 22] [25] [3, 8, 13] rfl (by kernel_rfl) hC0 (fun M => ?_)
        have h3 : RTab wr.drew base c _ t := h1.upd (Upd.refl [] wr).drew (by simp) (by simp)
        have hB3 : Blk wr.drew rb 30 _ := hB
        have hU3 := hU.drew
        clear h1 hB b0
        have e0 : wr.drew.cell? ⟨g, off + k * 5, none⟩ = _ := e0
        have e2 : wr.drew.cell? ⟨g, off + k * 5 + 2, none⟩ = _ := e2
        have e3 : wr.drew.cell? ⟨g, off + k * 5 + 3, none⟩ = _ := e3
        have e4 : wr.drew.cell? ⟨g, off + k * 5 + 4, none⟩ = _ := e4
        have f0 : wr.drew.frozen? ⟨g, off + k * 5, none⟩ = _ := f0
        have f3 : wr.drew.frozen? ⟨g, off + k * 5 + 3, none⟩ = _ := f3
        have f4 : wr.drew.frozen? ⟨g, off + k * 5 + 4, none⟩ = _ := f4
        generalize wr.drew = w3 at *
        have kk : ∀ j u w4, C w4 → C (w4.setCell ⟨g, off + k * 5 + j, none⟩ u) := fun j u w4 hw4 => hCi _ (by rw [((Upd.refl [g] w4).setCell (a := ⟨g, off + k * 5 + j, none⟩) (Or.inl (by simp)) u).cell (World.block_lt_of_cell? _ _ (hCo _ hw4)) (by simp; exact n2)]; exact hCo _ hw4)
        refine wpFx_pure rfl (fun K hK => ?_); go_simp; refine hK _ ?_; clear hK K
        refine wpFx_pure rfl (fun K hK => ?_); go_simp; refine hK _ ?_; clear hK K
        refine wpFx_pure rfl (fun K hK => ?_); go_simp; refine hK _ ?_; clear hK K
        refine wpFx_load rfl rfl (fun K hK => ?_); go_simp; refine hK _ ?_; clear hK K
        refine wpFx_pure rfl (fun K hK => ?_); go_simp; refine hK _ ?_; clear hK K
        refine wpFx_pure rfl (fun K hK => ?_); go_simp; refine hK _ ?_; clear hK K
        refine wpFx_pure rfl (fun K hK => ?_); go_simp; refine hK _ ?_; clear hK K
        refine wpFx_pure rfl (fun K hK => ?_); go_simp; refine hK _ ?_; clear hK K
        refine wpFx_load rfl rfl (fun K hK => ?_); go_simp; refine hK _ ?_; clear hK K
        refine wpFx_pure rfl (fun K hK => ?_); go_simp; refine hK _ ?_; clear hK K
        refine wpFx_pure rfl (fun K hK => ?_); go_simp; refine hK _ ?_; clear hK K
        refine wpFx_pure rfl (fun K hK => ?_); go_simp; refine hK _ ?_; clear hK K
        refine wpFx_pure rfl (fun K hK => ?_); go_simp; refine hK _ ?_; clear hK K
        refine wpFx_load rfl rfl (fun K hK => ?_); go_simp; refine hK _ ?_; clear hK K
        refine wpFx_pure rfl (fun K hK => ?_); go_simp; refine hK _ ?_; clear hK K
        refine wpFx_pure rfl (fun K hK => ?_); go_simp; refine hK _ ?_; clear hK K
        refine wpFx_pure rfl (fun K hK => ?_); go_simp; refine hK _ ?_; clear hK K
        refine wpFx_pure rfl (fun K hK => ?_); go_simp; refine hK _ ?_; clear hK K
        refine wpFx_pure rfl (fun K hK => ?_); go_simp; refine hK _ ?_; clear hK K
        refine wpFx_es rfl rfl (fun K hK => ?_); go_simp
        refine hK _ _ (kk 0 _ _ hC0) ?_; clear hK K
        refine wpFx_pure rfl (fun K hK => ?_); go_simp; refine hK _ ?_; clear hK K
        refine wpFx_pure rfl (fun K hK => ?_); go_simp; refine hK _ ?_; clear hK K
        refine wpFx_es rfl rfl (fun K hK => ?_); go_simp
        refine hK _ _ (kk 3 _ _ (kk 0 _ _ hC0)) ?_; clear hK K
        refine wpFx_pure rfl (fun K hK => ?_); go_simp; refine hK _ ?_; clear hK K
        refine wpFx_pure rfl (fun K hK => ?_); go_simp; refine hK _ ?_; clear hK K
        refine wpFx_et rfl rfl rfl (fun K hK => ?_); go_simp
        refine hK _ _ ?_; clear hK K
        refine wpFx_nil ?_
        have p1 := h3.write (e' := { x with st := 1 }) (u := .bool true) hx (j := 0) (by decide) (by simp [entR, s0, s1]) hf1
        have p2 := p1.1.write (i := k) (e := { x with st := 1 }) (e' := { x with st := 1, kind := kind }) (u := .int .i64 kind) (by rw [List.getElem?_set_self hlt]) (j := 3) (by decide) rfl hf1
        rw [List.set_set'] at p2
        have p3 := p2.1.write (i := k) (e := { x with st := 1, kind := kind }) (e' := x.opened kind num) (u := .int .i64 num) (by rw [List.getElem?_set_self hlt]) (j := 4) (by decide) rfl hf1
        rw [List.set_set'] at p3
        have pp := (p1.trans p2).trans p3
        have hB4 := hB3.upd pp.2 (by simp [Value.ownBlock]; exact ⟨n5, n3⟩)
        have hU4 : Upd (c :: (Value.slice (some ⟨g, off, none⟩) t.length co).ownBlock.toList) w _ := (hU3.mono (by simp)).trans_same pp.2
        obtain ⟨g', off', cap', hv', _, _, e2', _, _, _⟩ := pp.1.cells (i := k) (e := x.opened kind num) (by rw [List.getElem?_set_self hlt])
        rw [List.length_set] at hv'
        cases hv'
        have b0' := pp.1.blk.cell (i := 0) rfl
        have r0 := hB4.cell (i := 0) rfl
        have r1 := hB4.cell (i := 1) rfl
        have rf0 := hB4.frozen 0
        have rf1 := hB4.frozen 1
        have hRT := pp.1
        have hg2 : (x.opened kind num).gen = x.gen := rfl
        rw [hg2] at e2'
        clear p1 p2 p3 pp hB3 hU3 h3 hC0 hCi hCo hC cc1 kk e0 e1 e2 e3 e4 f0 f3 f4
        generalize ((w3.setCell ⟨g, off + k * 5 + 0, none⟩ (.bool true)).setCell ⟨g, off + k * 5 + 3, none⟩ (.int .i64 kind)).setCell ⟨g, off + k * 5 + 4, none⟩ (.int .i64 num) = w4 at *
        go_wp2_with fail
        have s0 := (hB4.set 0 (.int .i64 k)).set 1 (.int .i64 x.gen)
        have z0 := s0.cell (i := 0) rfl
        have z1 := s0.cell (i := 1) rfl
        (try simp only [Exit.inBlock, Exit.then])
        refine bodyPost_ret (v := .tuple #[.agg #[.int .i64 k, .int .i64 x.gen], .int .i64 0]) (by simp [results, Try.results24, go_sem, z0, z1]) rfl ?_
        refine ⟨by rw [hE, hH]; rfl, ?_⟩
        rw [hT]
        have hUF : ∀ x y, Upd [rb] w4 ((w4.setCell ⟨rb, 0, none⟩ x).setCell ⟨rb, 1, none⟩ y) := fun x y => ((Upd.refl _ _).setCell (a := ⟨rb, 0, none⟩) (Or.inl (by simp)) _).setCell (a := ⟨rb, 1, none⟩) (Or.inl (by simp)) _
        exact ⟨hRT.upd (hUF _ _) (by simp; exact n6) (fun q hq => by simp [Value.ownBlock] at hq; subst hq; simp; exact fun e => n3 e.symm), hU4.trans (fun q hq => Or.inr (by simp at hq; omega)) (hUF _ _)⟩
      · have h12 : x.st = 1 ∨ x.st = 2 := by obtain ⟨_, _, q3, _⟩ := hxf; omega
        rcases h12 with h12 | h12
        · have s0 : (x.st == 1) = true := by rw [h12]; rfl
          rw [s0] at e0
          go_wp2_with fail
          go_roundw
          case rel => exact ⟨k + 1, hlt, by go_num, fun j y hj hy => by
            by_cases hjk : j = k
            · subst hjk; rw [hx] at hy; cases hy; exact hst
            · exact hall j y (by omega) hy, by first | rfl | trivial⟩
          case measure => simp [intOf]; omega
        · have s0 : (x.st == 1) = false := by rw [h12]; rfl
          have s1 : (x.st == 2) = true := by rw [h12]; rfl
          rw [s0] at e0
          rw [s1] at e1
          go_wp2_with fail
          go_roundw
          case rel => exact ⟨k + 1, hlt, by go_num, fun j y hj hy => by
            by_cases hjk : j = k
            · subst hjk; rw [hx] at hy; cases hy; exact hst
            · exact hall j y (by omega) hy, by first | rfl | trivial⟩
          case measure => simp [intOf]; omega
    · obtain rfl : k = t.length := by omega
      have hfr : t.freeIx = t.length := by
        unfold TabM.freeIx
        refine List.findIdx_eq_length.2 (fun x hx => ?_)
        obtain ⟨j, hj, rfl⟩ := List.mem_iff_getElem.1 hx
        have := hall j t[j] hj (List.getElem?_eq_getElem hj)
        simpa using this
      have hE : t.openE = 4 := by unfold TabM.openE; rw [hfr, if_neg (Nat.lt_irrefl _)]
      have hN : t[t.freeIx]? = none := by rw [hfr]; exact List.getElem?_eq_none (Nat.le_refl _)
      have hH : t.openH = (0, 0) := by unfold TabM.openH; rw [hN]
      have hT : t.openT kind num = t := by unfold TabM.openT; rw [hN]
      have r0 := hB.cell (i := 0) rfl
      have r1 := hB.cell (i := 1) rfl
      have rf0 := hB.frozen 0
      have rf1 := hB.frozen 1
      clear hall
      go_wp2_with fail
      (try simp only [Exit.inBlock, Exit.then])
      have s0 := (hB.set 0 (.int .i64 0)).set 1 (.int .i64 0)
      have z0 := s0.cell (i := 0) rfl
      have z1 := s0.cell (i := 1) rfl
      refine bodyPost_ret (v := .tuple #[.agg #[.int .i64 0, .int .i64 0], .int .i64 4]) (by simp [results, Try.results24, go_sem, z0, z1]) rfl ?_
      refine ⟨by rw [hE, hH]; rfl, ?_⟩
      rw [hT]
      have hUF : ∀ x y, Upd [rb] wr ((wr.setCell ⟨rb, 0, none⟩ x).setCell ⟨rb, 1, none⟩ y) := fun x y => ((Upd.refl _ _).setCell (a := ⟨rb, 0, none⟩) (Or.inl (by simp)) _).setCell (a := ⟨rb, 1, none⟩) (Or.inl (by simp)) _
      exact ⟨h1.upd (hUF _ _) (by simp; omega) (fun q hq => by have := (hvw q hq).2; simp; omega), (hU.trans (fun q hq => Or.inr (by simp at hq; omega)) (hUF _ _)).mono (by simp)⟩

end Go.Proofs.Ytfejlokinopjbaa
