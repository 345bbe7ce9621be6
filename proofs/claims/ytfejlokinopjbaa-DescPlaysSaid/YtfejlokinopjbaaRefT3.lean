/- The walks of the document's table: Lookup, Set. -/
import Derived.Test.YtfejlokinopjbaaRefT2
namespace Go.Proofs.Ytfejlokinopjbaa
open Go Go.RowKit
set_option linter.unusedVariables false

set_option maxHeartbeats 1000000 in
set_option maxRecDepth 100000 in
theorem rt_lookup {w : World} {base c : Nat} {v : Value} {t : TabM} (ix gen : Int) (h : RTab w base c v t) :
    Calls Try.prog 26 #[.pointer (some ⟨c, 0, none⟩), .agg #[.int .i64 ix, .int .i64 gen]] w fun e w' =>
      e = .returned (.tuple #[.int .i64 (t.got ix gen).1, .int .i64 (t.got ix gen).2, .int .i64 (t.look ix gen : Nat)]) ∧ Upd [] w w' := by
  have hU : Upd [] w (w.alloc (.cells #[.int .i64 ix, .int .i64 gen] 30)) := (Upd.refl _ _).alloc _
  have h1 := h.upd hU (by simp) (by simp)
  have hf := rt_look ix gen h1
  have hB := blk_new' w 30 #[.int .i64 ix, .int .i64 gen]
  go_enter Try.func26, Try.ntmps26
  go_wp2_with fail
  refine hf.mono ?_
  rintro e w2 ⟨rfl, hU2⟩
  have h2 := h1.upd hU2 (by simp) (by simp)
  have hB2 := hB.upd hU2 (by simp)
  have k0 := hB2.cell (i := 0) rfl
  have k1 := hB2.cell (i := 1) rfl
  by_cases hl : t.look ix gen = 0
  · obtain ⟨i, x, rfl, hx, hst, rfl⟩ := look_ok hl
    have hgot : t.got i x.gen = (x.kind, x.num) := by unfold TabM.got; rw [if_pos hl, Int.toNat_natCast, hx]
    obtain ⟨g', off', cap', hv, e0, e1, e2, e3, e4, hfz⟩ := h2.cells hx
    subst hv
    have b0 := h2.blk.cell (i := 0) rfl
    have hil := (List.getElem?_eq_some_iff.1 hx).1
    have eadd : (⟨g', off', none⟩ : Addr).add (i * 5) = ⟨g', off' + i * 5, none⟩ := addr_add _ _ _
    rw [hl]
    go_wp2_with fail
    go_quiet (fail)
    go_wp2_with fail
    (try simp only [Exit.inBlock, Exit.then])
    refine bodyPost_ret (v := .tuple #[.int .i64 x.kind, .int .i64 x.num, .int .i64 0]) (by simp [results, Try.results26, go_sem]) rfl ?_
    exact ⟨by rw [hgot, hl]; rfl, (hU.trans_same hU2).drewN _⟩
  · have hgot : t.got ix gen = (0, 0) := by unfold TabM.got; rw [if_neg hl]
    have hl0 : ¬ ((t.look ix gen : Nat) : Int) = 0 := by omega
    go_wp2_with fail
    (try simp only [Exit.inBlock, Exit.then])
    refine bodyPost_ret (v := .tuple #[.int .i64 0, .int .i64 0, .int .i64 (t.look ix gen : Nat)]) (by simp [results, Try.results26, go_sem]) rfl ?_
    exact ⟨by rw [hgot], hU.trans_same hU2⟩

theorem List.set_set' {α : Type} (l : List α) (i : Nat) (a b : α) : (l.set i a).set i b = l.set i b := List.set_set ..

/-- A call's own handle, boxed; then look. -/
theorem rt_upd {w w1 w2 : World} {base c : Nat} {v : Value} {t : TabM} (h : RTab w base c v t) (hU : Upd [] w w1) : RTab w1 base c v t := h.upd hU (by simp) (by simp)

set_option maxHeartbeats 1000000 in
set_option maxRecDepth 100000 in
theorem rt_set {w : World} {base c : Nat} {v : Value} {t : TabM} (ix gen kind num : Int) (h : RTab w base c v t) :
    Calls Try.prog 27 #[.pointer (some ⟨c, 0, none⟩), .agg #[.int .i64 ix, .int .i64 gen], .int .i64 kind, .int .i64 num] w fun e w' =>
      e = .returned (.int .i64 (t.look ix gen : Nat)) ∧ RPost w base c v (t.turn ix gen fun x => { x with kind := kind, num := num }) w' := by
  have hU : Upd [] w (w.alloc (.cells #[.int .i64 ix, .int .i64 gen] 30)) := (Upd.refl _ _).alloc _
  have h1 := h.upd hU (by simp) (by simp)
  have hf := rt_look ix gen h1
  have hB := blk_new' w 30 #[.int .i64 ix, .int .i64 gen]
  go_enter Try.func27, Try.ntmps27
  go_wp2_with fail
  refine hf.mono ?_
  rintro e w2 ⟨rfl, hU2⟩
  have h2 := h1.upd hU2 (by simp) (by simp)
  have hB2 := hB.upd hU2 (by simp)
  by_cases hl : t.look ix gen = 0
  · obtain ⟨i, x, rfl, hx, hst, rfl⟩ := look_ok hl
    have hgot : t.turn i x.gen (fun x => { x with kind := kind, num := num }) = t.set i { x with kind := kind, num := num } := by unfold TabM.turn; rw [if_pos hl, Int.toNat_natCast, hx]
    have hUd : Upd [] w w2.drew := (hU.trans_same hU2).drew
    have h3 : RTab w2.drew base c v t := h2.upd (Upd.refl [] w2).drew (by simp) (by simp)
    obtain ⟨g, off, cap, hv, e0, e1, e2, e3, e4, hfz⟩ := h3.cells hx
    subst hv
    have b0 := h2.blk.cell (i := 0) rfl
    have k0 := hB2.cell (i := 0) rfl
    have hil := (List.getElem?_eq_some_iff.1 hx).1
    have eadd : (⟨g, off, none⟩ : Addr).add (i * 5) = ⟨g, off + i * 5, none⟩ := addr_add _ _ _
    have f3 := hfz (off + i * 5 + 3)
    have f4 := hfz (off + i * 5 + 4)
    have hfx := h.fine x (List.mem_of_getElem? hx)
    have p1 := h3.write (e' := { x with kind := kind }) (u := .int .i64 kind) hx (j := 3) (by decide) rfl hfx
    have p2 := p1.1.write (i := i) (e := { x with kind := kind }) (e' := { x with kind := kind, num := num }) (u := .int .i64 num) (by rw [List.getElem?_set_self hil]) (j := 4) (by decide) rfl hfx
    rw [List.set_set'] at p2
    have pp := p1.trans p2
    rw [hl]
    clear hfz hB hB2 h1 p1 p2 e0 e1 e2
    go_wp2_with fail
    obtain ⟨C, hC⟩ : ∃ C : World → Prop, C = fun w' => w'.cell? ⟨c, 0, none⟩ = some (.slice (some ⟨g, off, none⟩) t.length cap) ∧ w'.cell? ⟨w.heap.size, 0, none⟩ = some (.int .i64 i) := ⟨_, rfl⟩
    have hCi : ∀ w', w'.cell? ⟨c, 0, none⟩ = some (.slice (some ⟨g, off, none⟩) t.length cap) → w'.cell? ⟨w.heap.size, 0, none⟩ = some (.int .i64 i) → C w' := fun w' h1 h2 => by rw [hC]; exact ⟨h1, h2⟩
    have hCo : ∀ w', C w' → w'.cell? ⟨c, 0, none⟩ = some (.slice (some ⟨g, off, none⟩) t.length cap) ∧ w'.cell? ⟨w.heap.size, 0, none⟩ = some (.int .i64 i) := fun w' h => by rw [hC] at h; exact h
    have ncg : c ≠ g := fun e => h.ap g rfl e.symm
    have nhg : w.heap.size ≠ g := fun e => by have := (h.vlt g rfl).2; omega
    have hC0 : C w2.drew := hCi _ b0 k0
    have cc1 : ∀ x : { w' // C w' }, x.1.cell? ⟨c, 0, none⟩ = some (.slice (some ⟨g, off, none⟩) t.length cap) := fun y => by obtain ⟨y, h⟩ := y; rw [hC] at h; exact h.1
    have cc2 : ∀ y : { w' // C w' }, y.1.cell? ⟨w.heap.size, 0, none⟩ = some (.int .i64 i) := fun y => by obtain ⟨y, h⟩ := y; rw [hC] at h; exact h.2
    haveI : Nonempty { w' // C w' } := ⟨⟨_, hC0⟩⟩
    refine wp_region_fxl C [16] [19] [3, 5, 9, 11] rfl (by kernel_rfl) hC0 (fun M => ?_)
    clear b0 k0
    generalize w2.drew = w3 at *
    refine wpFx_pure rfl (fun K hK => ?_); go_simp; refine hK _ ?_; clear hK K
    refine wpFx_pure rfl (fun K hK => ?_); go_simp; refine hK _ ?_; clear hK K
    refine wpFx_pure rfl (fun K hK => ?_); go_simp; refine hK _ ?_; clear hK K
    refine wpFx_load rfl rfl (fun K hK => ?_); go_simp; refine hK _ ?_; clear hK K
    refine wpFx_pure rfl (fun K hK => ?_); go_simp; refine hK _ ?_; clear hK K
    refine wpFx_load rfl rfl (fun K hK => ?_); go_simp; refine hK _ ?_; clear hK K
    refine wpFx_pure rfl (fun K hK => ?_); go_simp; refine hK _ ?_; clear hK K
    refine wpFx_pure rfl (fun K hK => ?_); go_simp; refine hK _ ?_; clear hK K
    refine wpFx_pure rfl (fun K hK => ?_); go_simp; refine hK _ ?_; clear hK K
    refine wpFx_load rfl rfl (fun K hK => ?_); go_simp; refine hK _ ?_; clear hK K
    refine wpFx_pure rfl (fun K hK => ?_); go_simp; refine hK _ ?_; clear hK K
    refine wpFx_load rfl rfl (fun K hK => ?_); go_simp; refine hK _ ?_; clear hK K
    refine wpFx_pure rfl (fun K hK => ?_); go_simp; refine hK _ ?_; clear hK K
    refine wpFx_pure rfl (fun K hK => ?_); go_simp; refine hK _ ?_; clear hK K
    refine wpFx_pure rfl (fun K hK => ?_); go_simp; refine hK _ ?_; clear hK K
    refine wpFx_pure rfl (fun K hK => ?_); go_simp; refine hK _ ?_; clear hK K
    refine wpFx_es rfl rfl (fun K hK => ?_); go_simp
    have uw := (Upd.refl [g] w3).setCell (a := ⟨g, off + i * 5 + 3, none⟩) (Or.inl (by simp)) (.int .i64 kind)
    refine hK _ _ (hCi _ (by rw [uw.cell (World.block_lt_of_cell? _ _ (hCo _ hC0).1) (by simp; exact ncg)]; exact (hCo _ hC0).1) (by rw [uw.cell (World.block_lt_of_cell? _ _ (hCo _ hC0).2) (by simp; exact nhg)]; exact (hCo _ hC0).2)) ?_
    clear hK K
    refine wpFx_pure rfl (fun K hK => ?_); go_simp; refine hK _ ?_; clear hK K
    refine wpFx_pure rfl (fun K hK => ?_); go_simp; refine hK _ ?_; clear hK K
    refine wpFx_et rfl rfl rfl (fun K hK => ?_); go_simp
    refine hK _ _ ?_; clear hK K
    refine wpFx_nil ?_
    go_wp2_with fail
    go_ret
    refine ⟨by rw [hl]; rfl, ?_⟩
    rw [hgot]
    exact ⟨pp.1, (hUd.mono (by simp)).trans_same pp.2⟩
  · have hgot : t.turn ix gen (fun x => { x with kind := kind, num := num }) = t := by unfold TabM.turn; rw [if_neg hl]
    have hl0 : ¬ ((t.look ix gen : Nat) : Int) = 0 := by omega
    go_wp2_with fail
    go_ret
    refine ⟨rfl, ?_⟩
    rw [hgot]
    exact ⟨h2, (hU.trans_same hU2).mono (by simp)⟩

end Go.Proofs.Ytfejlokinopjbaa
