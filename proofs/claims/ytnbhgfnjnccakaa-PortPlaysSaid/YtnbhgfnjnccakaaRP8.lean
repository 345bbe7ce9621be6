/- The walks of the document's port's Event: data, room, what is refused (written by gen_rp8.py). -/
import Derived.Test.YtnbhgfnjnccakaaRP7
namespace Go.Proofs.Ytnbhgfnjnccakaa
open Go Go.RowKit
set_option linter.unusedVariables false

section
variable {w w1 : World} {base c : Nat} {L : XLay} {p : PortM}

set_option maxHeartbeats 1000000 in
set_option maxRecDepth 100000 in
theorem rv_data_ok (n : Int) (bs : List UInt8) (hbl : bs.length ≤ 140737488355328) (ra : Option Addr) (rl rc : Nat) {i : Nat} {x : EndM} (h : RPortAt w base c L p) (hx : p.ends[i]? = some x) (hst : x.st = 1) (hth : x.theirs = false) :
    Calls Try.prog 45 #[.pointer (some ⟨c, 0, none⟩), evV 2 i n bs ra rl rc] w (REvPost w base c L (putK p.size x.xs bs) 0 (p.setEnd i (x.gets p.size bs))) := by
  unfold evV
  have hX := blk_new' w 34 #[.int .i64 2, .int .i64 i, .int .i64 n, .string (strB bs), .slice ra rl rc]
  have k1 : Upd [] w (w.alloc (.cells #[.int .i64 2, .int .i64 i, .int .i64 n, .string (strB bs), .slice ra rl rc] 34)) := (Upd.refl _ _).alloc _
  have h1 := h.upd k1 (by simp)
  have hs := rp_stream_t h1 hx
  obtain ⟨g, off, cap, hv, hg, _⟩ := h1.cells hx
  obtain ⟨c0, c1, c2, c3, c4, c5, hfz⟩ := h1.cellsAt hx hv
  have hil := (List.getElem?_eq_some_iff.1 hx).1
  have hfx := h.fine x (List.mem_of_getElem? hx)
  have hsm := h.small
  have x0 := hX.cell (i := 0) rfl
  have x1 := hX.cell (i := 1) rfl
  have x2 := hX.cell (i := 2) rfl
  have x3 := hX.cell (i := 3) rfl
  have b2 := h1.blk.cell (i := 2) rfl
  rw [hv] at b2
  have hXl : w.heap.size ∉ L.foot := h.fresh (Nat.le_refl _)
  have eadd : (⟨g, off, none⟩ : Addr).add (i * 6) = ⟨g, off + i * 6, none⟩ := addr_add _ _ _
  rw [hst] at c0
  rw [hth] at c3
  clear hfz
  go_enter Try.func45, Try.ntmps45
  go_wp2_with fail
  refine hs.mono ?_
  rintro e w' ⟨rfl, rfl⟩
  generalize hXe : w.heap.size = X at *
  generalize w.alloc (.cells #[.int .i64 2, .int .i64 i, .int .i64 n, .string (strB bs), .slice ra rl rc] 34) = w1 at *
  go_wp2_with fail
  have h2 := h1.upd ((Upd.refl [] w1).drew) (by simp)
  have hd : Upd [] w1 w1.drew := (Upd.refl _ _).drew
  have hXd := hX.upd hd (by simp)
  obtain ⟨d0, d1, d2, d3, d4, d5, _⟩ := h2.cellsAt hx hv
  have bd := h2.blk.cell (i := 2) rfl
  rw [hv] at bd
  obtain ⟨C, hC⟩ : ∃ C : World → Prop, C = fun w' => w'.cell? ⟨c, 2, none⟩ = some (.slice (some ⟨g, off, none⟩) p.ends.length cap) ∧ w'.cell? ⟨g, off + i * 6 + 5, none⟩ = some (.pointer (some ⟨L.rb i, 0, none⟩)) ∧ w'.cell? ⟨X, 3, none⟩ = some (.string (strB bs)) := ⟨_, rfl⟩
  have hCo : ∀ w', C w' → w'.cell? ⟨c, 2, none⟩ = some (.slice (some ⟨g, off, none⟩) p.ends.length cap) ∧ w'.cell? ⟨g, off + i * 6 + 5, none⟩ = some (.pointer (some ⟨L.rb i, 0, none⟩)) ∧ w'.cell? ⟨X, 3, none⟩ = some (.string (strB bs)) := fun w' h => by rw [hC] at h; exact h
  have hC0 : C w1.drew := by rw [hC]; exact ⟨bd, d5, hXd.cell (i := 3) rfl⟩
  have kk : ∀ {F : List Nat} {u v : World}, C u → Upd F u v → c ∉ F → g ∉ F → X ∉ F → C v := fun {F u v} hu hv n1 n2 n3 => by
    obtain ⟨q1, q2, q3⟩ := hCo _ hu
    rw [hC]
    exact ⟨by rw [hv.cell (World.block_lt_of_cell? _ _ q1) n1]; exact q1, by rw [hv.cell (World.block_lt_of_cell? _ _ q2) n2]; exact q2, by rw [hv.cell (World.block_lt_of_cell? _ _ q3) n3]; exact q3⟩
  have cc1 : ∀ x : { w' // C w' }, x.1.cell? ⟨c, 2, none⟩ = some (.slice (some ⟨g, off, none⟩) p.ends.length cap) := fun y => (hCo _ y.2).1
  have cc2 : ∀ x : { w' // C w' }, x.1.cell? ⟨g, off + i * 6 + 5, none⟩ = some (.pointer (some ⟨L.rb i, 0, none⟩)) := fun y => (hCo _ y.2).2.1
  have cc3 : ∀ x : { w' // C w' }, x.1.cell? ⟨X, 3, none⟩ = some (.string (strB bs)) := fun y => (hCo _ y.2).2.2
  haveI : Nonempty { w' // C w' } := ⟨⟨_, hC0⟩⟩
  refine wp_region_fxl C [10, 11] [] [3, 7, 9] rfl (by kernel_rfl) hC0 (fun M => ?_)
  clear c0 c1 c2 c3 c4 c5 b2 x0 x1 x2 x3 hs d0 d1 d2 d3 d4 d5 bd hXd
  generalize w1.drew = wd at *
  refine wpFx_pure rfl (fun K hK => ?_); go_simp; refine hK _ ?_; clear hK K
  refine wpFx_pure rfl (fun K hK => ?_); go_simp; refine hK _ ?_; clear hK K
  refine wpFx_pure rfl (fun K hK => ?_); go_simp; refine hK _ ?_; clear hK K
  refine wpFx_load rfl rfl (fun K hK => ?_); go_simp; refine hK _ ?_; clear hK K
  refine wpFx_pure rfl (fun K hK => ?_); go_simp; refine hK _ ?_; clear hK K
  refine wpFx_pure rfl (fun K hK => ?_); go_simp; refine hK _ ?_; clear hK K
  refine wpFx_pure rfl (fun K hK => ?_); go_simp; refine hK _ ?_; clear hK K
  refine wpFx_load rfl rfl (fun K hK => ?_); go_simp; refine hK _ ?_; clear hK K
  refine wpFx_pure rfl (fun K hK => ?_); go_simp; refine hK _ ?_; clear hK K
  refine wpFx_load rfl rfl (fun K hK => ?_); go_simp; refine hK _ ?_; clear hK K
  obtain ⟨cv, w3, hcv, hrd, hku⟩ := conv_bytes wd bs hbl
  refine wpFx_es rfl rfl (fun K hK => ?_); go_simp
  have hC3 := kk hC0 hku (by simp) (by simp) (by simp)
  refine hK _ _ hC3 ?_
  clear hK K
  have h3 := h2.upd hku (by simp)
  have t1 := (h2.tr i hil).1
  have t2 := (h2.tr i hil).2
  have hlt2 := h2.lt
  have hR := rr_put (h3.rings i x hx) hrd (fun _ q hq => by
    have hq' : q = wd.heap.size := by simp [Value.ownBlock] at hq; exact hq.symm
    subst hq'
    exact ⟨fun e => by have := hlt2 _ t1.2.2; omega, fun e => by have := hlt2 _ (t2 _ e).2.2; omega⟩)
  clear hcv hC0
  refine wpFx_es rfl rfl (fun K hK => ?_); go_simp
  refine hR.mono ?_
  rintro e w4 ⟨rfl, v', hR4, hbk, hU4⟩
  have pp := h3.ring hx hU4 hR4 hbk
  have inF : ∀ q, q ∈ L.rb i :: (L.rv i).ownBlock.toList → L.has base (5 + 2 * i) q ∨ L.has base (6 + 2 * i) q := fun q hq => by
    rcases List.mem_cons.1 hq with rfl | h'
    · exact Or.inl t1
    · exact Or.inr (t2 q (mem_ownP h'))
  refine hK _ _ (kk hC3 hU4 (fun hq => ?_) (fun hq => ?_) (fun hq => ?_)) ?_
  · rcases inF _ hq with h' | h'
    · exact h.tb.ne h' (by omega) rfl
    · exact h.tb.ne h' (by omega) rfl
  · rcases inF _ hq with h' | h'
    · exact hg.ne h' (by omega) rfl
    · exact hg.ne h' (by omega) rfl
  · rcases inF _ hq with h' | h'
    · exact hXl h'.2.2
    · exact hXl h'.2.2
  clear hK K
  refine wpFx_pure rfl (fun K hK => ?_); go_simp; refine hK _ ?_; clear hK K
  refine wpFx_pure rfl (fun K hK => ?_); go_simp; refine hK _ ?_; clear hK K
  refine wpFx_nil ?_
  go_wp2_with fail
  go_ret2
  exact ⟨rfl, ((pp.pre hku).pre hd).pre k1⟩

set_option maxHeartbeats 1000000 in
set_option maxRecDepth 100000 in
theorem rv_room_ok (n : Nat) (bs : List UInt8) (ra : Option Addr) (rl rc : Nat) {i : Nat} {x : EndM} (h : RPortAt w base c L p) (hx : p.ends[i]? = some x) (hst : x.st = 1) :
    Calls Try.prog 45 #[.pointer (some ⟨c, 0, none⟩), evV 5 i n bs ra rl rc] w (REvPost w base c L 0 0 (p.setEnd i { x with room := x.room + min n (1099511627776 - x.room) })) := by
  unfold evV
  have hX := blk_new' w 34 #[.int .i64 5, .int .i64 i, .int .i64 n, .string (strB bs), .slice ra rl rc]
  have k1 : Upd [] w (w.alloc (.cells #[.int .i64 5, .int .i64 i, .int .i64 n, .string (strB bs), .slice ra rl rc] 34)) := (Upd.refl _ _).alloc _
  have h1 := h.upd k1 (by simp)
  have hs := rp_stream_t h1 hx
  obtain ⟨g, off, cap, hv, hg, _⟩ := h1.cells hx
  obtain ⟨c0, c1, c2, c3, c4, c5, hfz⟩ := h1.cellsAt hx hv
  have hil := (List.getElem?_eq_some_iff.1 hx).1
  have hfx := h.fine x (List.mem_of_getElem? hx)
  have hsm := h.small
  have x0 := hX.cell (i := 0) rfl
  have x1 := hX.cell (i := 1) rfl
  have x2 := hX.cell (i := 2) rfl
  have x3 := hX.cell (i := 3) rfl
  have b2 := h1.blk.cell (i := 2) rfl
  rw [hv] at b2
  have hXl : w.heap.size ∉ L.foot := h.fresh (Nat.le_refl _)
  have eadd : (⟨g, off, none⟩ : Addr).add (i * 6) = ⟨g, off + i * 6, none⟩ := addr_add _ _ _
  rw [hst] at c0
  have hr2 := hfx.2
  obtain ⟨K0, hK0⟩ : ∃ K0 : Nat, K0 = 1099511627776 - x.room := ⟨_, rfl⟩
  have ek : IntKind.i64.wrap (1099511627776 - (x.room : Int)) = (K0 : Int) := by rw [IntWalk.i64_in _ (by omega)]; omega
  clear hfz
  go_enter Try.func45, Try.ntmps45
  go_wp2_with fail
  refine hs.mono ?_
  rintro e w' ⟨rfl, rfl⟩
  generalize hXe : w.heap.size = X at *
  generalize w.alloc (.cells #[.int .i64 5, .int .i64 i, .int .i64 n, .string (strB bs), .slice ra rl rc] 34) = w1 at *
  by_cases hm : n ≤ K0
  · have hm1 : ¬ K0 < n := by omega
    obtain ⟨R', hR'⟩ : ∃ R' : Nat, R' = x.room + n := ⟨_, rfl⟩
    have er : IntKind.i64.wrap ((x.room : Int) + (n : Int)) = (R' : Int) := by rw [IntWalk.i64_in _ (by omega)]; omega
    have HR := Lib.hid (show x.room + min n (1099511627776 - x.room) = R' by omega)
    have hRle : R' ≤ 1099511627776 := by omega
    clear hm hR' hK0
    go_wp2_with fail
    have h2 := h1.upd ((Upd.refl [] w1).drew) (by simp)
    have hd : Upd [] w1 w1.drew := (Upd.refl _ _).drew
    have hXd := hX.upd hd (by simp)
    obtain ⟨d0, d1, d2, d3, d4, d5, hfz⟩ := h2.cellsAt hx hv
    have bd := h2.blk.cell (i := 2) rfl
    rw [hv] at bd
    have f1 := hfz (off + i * 6 + 1)
    have x2d := hXd.cell (i := 2) rfl
    have pp := h2.write_post (j := 1) (e' := { x with room := R' }) (u := .int .i64 (R' : Nat)) hx hv (by decide) rfl rfl ⟨hfx.1, hRle⟩
    obtain ⟨C, hC⟩ : ∃ C : World → Prop, C = fun w' => w'.cell? ⟨c, 2, none⟩ = some (.slice (some ⟨g, off, none⟩) p.ends.length cap) ∧ w'.cell? ⟨g, off + i * 6 + 1, none⟩ = some (.int .i64 x.room) ∧ w'.cell? ⟨X, 2, none⟩ = some (.int .i64 n) := ⟨_, rfl⟩
    have hCo : ∀ w', C w' → w'.cell? ⟨c, 2, none⟩ = some (.slice (some ⟨g, off, none⟩) p.ends.length cap) ∧ w'.cell? ⟨g, off + i * 6 + 1, none⟩ = some (.int .i64 x.room) ∧ w'.cell? ⟨X, 2, none⟩ = some (.int .i64 n) := fun w' h => by rw [hC] at h; exact h
    have hC0 : C w1.drew := by rw [hC]; exact ⟨bd, d1, x2d⟩
    have cc1 : ∀ x : { w' // C w' }, x.1.cell? ⟨c, 2, none⟩ = some (.slice (some ⟨g, off, none⟩) p.ends.length cap) := fun y => (hCo _ y.2).1
    have cc2 : ∀ z : { w' // C w' }, z.1.cell? ⟨g, off + i * 6 + 1, none⟩ = some (.int .i64 x.room) := fun y => (hCo _ y.2).2.1
    have cc3 : ∀ x : { w' // C w' }, x.1.cell? ⟨X, 2, none⟩ = some (.int .i64 n) := fun y => (hCo _ y.2).2.2
    haveI : Nonempty { w' // C w' } := ⟨⟨_, hC0⟩⟩
    refine wp_region_fxl C [] [23] [3, 7, 9, 13, 17] rfl (by kernel_rfl) hC0 (fun M => ?_)
    clear c0 c1 c2 c3 c4 c5 b2 x0 x1 x2 x3 hs d0 d2 d3 d4 d5 hfz
    generalize w1.drew = wd at *
    refine wpFx_pure rfl (fun K hK => ?_); go_simp; refine hK _ ?_; clear hK K
    refine wpFx_pure rfl (fun K hK => ?_); go_simp; refine hK _ ?_; clear hK K
    refine wpFx_pure rfl (fun K hK => ?_); go_simp; refine hK _ ?_; clear hK K
    refine wpFx_load rfl rfl (fun K hK => ?_); go_simp; refine hK _ ?_; clear hK K
    refine wpFx_pure rfl (fun K hK => ?_); go_simp; refine hK _ ?_; clear hK K
    refine wpFx_pure rfl (fun K hK => ?_); go_simp; refine hK _ ?_; clear hK K
    refine wpFx_pure rfl (fun K hK => ?_); go_simp; refine hK _ ?_; clear hK K
    refine wpFx_load rfl rfl (fun K hK => ?_); go_simp; refine hK _ ?_; clear hK K
    refine wpFx_pure rfl (fun K hK => ?_); go_simp; refine hK _ ?_; clear hK K
    refine wpFx_load rfl rfl (fun K hK => ?_); go_simp; refine hK _ ?_; clear hK K
    refine wpFx_pure rfl (fun K hK => ?_); go_simp; refine hK _ ?_; clear hK K
    refine wpFx_pure rfl (fun K hK => ?_); go_simp; refine hK _ ?_; clear hK K
    refine wpFx_pure rfl (fun K hK => ?_); go_simp; refine hK _ ?_; clear hK K
    refine wpFx_load rfl rfl (fun K hK => ?_); go_simp; refine hK _ ?_; clear hK K
    refine wpFx_pure rfl (fun K hK => ?_); go_simp; refine hK _ ?_; clear hK K
    refine wpFx_pure rfl (fun K hK => ?_); go_simp; refine hK _ ?_; clear hK K
    refine wpFx_pure rfl (fun K hK => ?_); go_simp; refine hK _ ?_; clear hK K
    refine wpFx_load rfl rfl (fun K hK => ?_); go_simp; refine hK _ ?_; clear hK K
    refine wpFx_pure rfl (fun K hK => ?_); go_simp; refine hK _ ?_; clear hK K
    refine wpFx_pure rfl (fun K hK => ?_); go_simp; refine hK _ ?_; clear hK K
    refine wpFx_pure rfl (fun K hK => ?_); go_simp; refine hK _ ?_; clear hK K
    refine wpFx_pure rfl (fun K hK => ?_); go_simp; refine hK _ ?_; clear hK K
    refine wpFx_pure rfl (fun K hK => ?_); go_simp; refine hK _ ?_; clear hK K
    refine wpFx_et rfl rfl rfl (fun K hK => ?_); go_simp
    refine hK _ _ ?_; clear hK K
    refine wpFx_nil ?_
    go_wp2_with fail
    go_ret2
    exact ⟨rfl, by rw [HR.out]; exact (pp.pre hd).pre k1⟩
  · have hm1 : K0 < n := by omega
    obtain ⟨R', hR'⟩ : ∃ R' : Nat, R' = x.room + K0 := ⟨_, rfl⟩
    have er : IntKind.i64.wrap ((x.room : Int) + (K0 : Int)) = (R' : Int) := by rw [IntWalk.i64_in _ (by omega)]; omega
    have HR := Lib.hid (show x.room + min n (1099511627776 - x.room) = R' by omega)
    have hRle : R' ≤ 1099511627776 := by omega
    clear hm hR' hK0
    go_wp2_with fail
    have h2 := h1.upd ((Upd.refl [] w1).drew) (by simp)
    have hd : Upd [] w1 w1.drew := (Upd.refl _ _).drew
    have hXd := hX.upd hd (by simp)
    obtain ⟨d0, d1, d2, d3, d4, d5, hfz⟩ := h2.cellsAt hx hv
    have bd := h2.blk.cell (i := 2) rfl
    rw [hv] at bd
    have f1 := hfz (off + i * 6 + 1)
    have x2d := hXd.cell (i := 2) rfl
    have pp := h2.write_post (j := 1) (e' := { x with room := R' }) (u := .int .i64 (R' : Nat)) hx hv (by decide) rfl rfl ⟨hfx.1, hRle⟩
    obtain ⟨C, hC⟩ : ∃ C : World → Prop, C = fun w' => w'.cell? ⟨c, 2, none⟩ = some (.slice (some ⟨g, off, none⟩) p.ends.length cap) ∧ w'.cell? ⟨g, off + i * 6 + 1, none⟩ = some (.int .i64 x.room) ∧ w'.cell? ⟨X, 2, none⟩ = some (.int .i64 n) := ⟨_, rfl⟩
    have hCo : ∀ w', C w' → w'.cell? ⟨c, 2, none⟩ = some (.slice (some ⟨g, off, none⟩) p.ends.length cap) ∧ w'.cell? ⟨g, off + i * 6 + 1, none⟩ = some (.int .i64 x.room) ∧ w'.cell? ⟨X, 2, none⟩ = some (.int .i64 n) := fun w' h => by rw [hC] at h; exact h
    have hC0 : C w1.drew := by rw [hC]; exact ⟨bd, d1, x2d⟩
    have cc1 : ∀ x : { w' // C w' }, x.1.cell? ⟨c, 2, none⟩ = some (.slice (some ⟨g, off, none⟩) p.ends.length cap) := fun y => (hCo _ y.2).1
    have cc2 : ∀ z : { w' // C w' }, z.1.cell? ⟨g, off + i * 6 + 1, none⟩ = some (.int .i64 x.room) := fun y => (hCo _ y.2).2.1
    have cc3 : ∀ x : { w' // C w' }, x.1.cell? ⟨X, 2, none⟩ = some (.int .i64 n) := fun y => (hCo _ y.2).2.2
    haveI : Nonempty { w' // C w' } := ⟨⟨_, hC0⟩⟩
    refine wp_region_fxl C [] [23] [3, 7, 9, 13, 17] rfl (by kernel_rfl) hC0 (fun M => ?_)
    clear c0 c1 c2 c3 c4 c5 b2 x0 x1 x2 x3 hs d0 d2 d3 d4 d5 hfz
    generalize w1.drew = wd at *
    refine wpFx_pure rfl (fun K hK => ?_); go_simp; refine hK _ ?_; clear hK K
    refine wpFx_pure rfl (fun K hK => ?_); go_simp; refine hK _ ?_; clear hK K
    refine wpFx_pure rfl (fun K hK => ?_); go_simp; refine hK _ ?_; clear hK K
    refine wpFx_load rfl rfl (fun K hK => ?_); go_simp; refine hK _ ?_; clear hK K
    refine wpFx_pure rfl (fun K hK => ?_); go_simp; refine hK _ ?_; clear hK K
    refine wpFx_pure rfl (fun K hK => ?_); go_simp; refine hK _ ?_; clear hK K
    refine wpFx_pure rfl (fun K hK => ?_); go_simp; refine hK _ ?_; clear hK K
    refine wpFx_load rfl rfl (fun K hK => ?_); go_simp; refine hK _ ?_; clear hK K
    refine wpFx_pure rfl (fun K hK => ?_); go_simp; refine hK _ ?_; clear hK K
    refine wpFx_load rfl rfl (fun K hK => ?_); go_simp; refine hK _ ?_; clear hK K
    refine wpFx_pure rfl (fun K hK => ?_); go_simp; refine hK _ ?_; clear hK K
    refine wpFx_pure rfl (fun K hK => ?_); go_simp; refine hK _ ?_; clear hK K
    refine wpFx_pure rfl (fun K hK => ?_); go_simp; refine hK _ ?_; clear hK K
    refine wpFx_load rfl rfl (fun K hK => ?_); go_simp; refine hK _ ?_; clear hK K
    refine wpFx_pure rfl (fun K hK => ?_); go_simp; refine hK _ ?_; clear hK K
    refine wpFx_pure rfl (fun K hK => ?_); go_simp; refine hK _ ?_; clear hK K
    refine wpFx_pure rfl (fun K hK => ?_); go_simp; refine hK _ ?_; clear hK K
    refine wpFx_load rfl rfl (fun K hK => ?_); go_simp; refine hK _ ?_; clear hK K
    refine wpFx_pure rfl (fun K hK => ?_); go_simp; refine hK _ ?_; clear hK K
    refine wpFx_pure rfl (fun K hK => ?_); go_simp; refine hK _ ?_; clear hK K
    refine wpFx_pure rfl (fun K hK => ?_); go_simp; refine hK _ ?_; clear hK K
    refine wpFx_pure rfl (fun K hK => ?_); go_simp; refine hK _ ?_; clear hK K
    refine wpFx_pure rfl (fun K hK => ?_); go_simp; refine hK _ ?_; clear hK K
    refine wpFx_et rfl rfl rfl (fun K hK => ?_); go_simp
    refine hK _ _ ?_; clear hK K
    refine wpFx_nil ?_
    go_wp2_with fail
    go_ret2
    exact ⟨rfl, by rw [HR.out]; exact (pp.pre hd).pre k1⟩

set_option maxHeartbeats 1000000 in
set_option maxRecDepth 100000 in
theorem rv_none1 (en n : Int) (bs : List UInt8) (ra : Option Addr) (rl rc : Nat) (h : RPortAt w base c L p) (hn : p.at? en = none) :
    Calls Try.prog 45 #[.pointer (some ⟨c, 0, none⟩), evV 1 en n bs ra rl rc] w (REvPost w base c L 0 2 p) := by
  unfold evV
  have hX := blk_new' w 34 #[.int .i64 1, .int .i64 en, .int .i64 n, .string (strB bs), .slice ra rl rc]
  have k1 : Upd [] w (w.alloc (.cells #[.int .i64 1, .int .i64 en, .int .i64 n, .string (strB bs), .slice ra rl rc] 34)) := (Upd.refl _ _).alloc _
  have h1 := h.upd k1 (by simp)
  have x0 := hX.cell (i := 0) rfl
  have x1 := hX.cell (i := 1) rfl
  have x2 := hX.cell (i := 2) rfl
  have x3 := hX.cell (i := 3) rfl
  have hs := rp_client_no h1 (Or.inl hn)
  go_enter Try.func45, Try.ntmps45
  go_wp2_with fail
  refine hs.mono ?_
  rintro e w' ⟨rfl, rfl⟩
  go_wp2_with fail
  go_ret2
  exact ⟨rfl, (RPost.refl h1).pre k1⟩

set_option maxHeartbeats 1000000 in
set_option maxRecDepth 100000 in
theorem rv_none2 (en n : Int) (bs : List UInt8) (ra : Option Addr) (rl rc : Nat) (h : RPortAt w base c L p) (hn : p.at? en = none) :
    Calls Try.prog 45 #[.pointer (some ⟨c, 0, none⟩), evV 2 en n bs ra rl rc] w (REvPost w base c L 0 2 p) := by
  unfold evV
  have hX := blk_new' w 34 #[.int .i64 2, .int .i64 en, .int .i64 n, .string (strB bs), .slice ra rl rc]
  have k1 : Upd [] w (w.alloc (.cells #[.int .i64 2, .int .i64 en, .int .i64 n, .string (strB bs), .slice ra rl rc] 34)) := (Upd.refl _ _).alloc _
  have h1 := h.upd k1 (by simp)
  have x0 := hX.cell (i := 0) rfl
  have x1 := hX.cell (i := 1) rfl
  have x2 := hX.cell (i := 2) rfl
  have x3 := hX.cell (i := 3) rfl
  have hs := rp_stream_f h1 hn
  go_enter Try.func45, Try.ntmps45
  go_wp2_with fail
  refine hs.mono ?_
  rintro e w' ⟨rfl, rfl⟩
  go_wp2_with fail
  go_ret2
  exact ⟨rfl, (RPost.refl h1).pre k1⟩

set_option maxHeartbeats 1000000 in
set_option maxRecDepth 100000 in
theorem rv_none3 (en n : Int) (bs : List UInt8) (ra : Option Addr) (rl rc : Nat) (h : RPortAt w base c L p) (hn : p.at? en = none) :
    Calls Try.prog 45 #[.pointer (some ⟨c, 0, none⟩), evV 3 en n bs ra rl rc] w (REvPost w base c L 0 2 p) := by
  unfold evV
  have hX := blk_new' w 34 #[.int .i64 3, .int .i64 en, .int .i64 n, .string (strB bs), .slice ra rl rc]
  have k1 : Upd [] w (w.alloc (.cells #[.int .i64 3, .int .i64 en, .int .i64 n, .string (strB bs), .slice ra rl rc] 34)) := (Upd.refl _ _).alloc _
  have h1 := h.upd k1 (by simp)
  have x0 := hX.cell (i := 0) rfl
  have x1 := hX.cell (i := 1) rfl
  have x2 := hX.cell (i := 2) rfl
  have x3 := hX.cell (i := 3) rfl
  have hs := rp_stream_f h1 hn
  go_enter Try.func45, Try.ntmps45
  go_wp2_with fail
  refine hs.mono ?_
  rintro e w' ⟨rfl, rfl⟩
  go_wp2_with fail
  go_ret2
  exact ⟨rfl, (RPost.refl h1).pre k1⟩

set_option maxHeartbeats 1000000 in
set_option maxRecDepth 100000 in
theorem rv_none4 (en n : Int) (bs : List UInt8) (ra : Option Addr) (rl rc : Nat) (h : RPortAt w base c L p) (hn : p.at? en = none) :
    Calls Try.prog 45 #[.pointer (some ⟨c, 0, none⟩), evV 4 en n bs ra rl rc] w (REvPost w base c L 0 2 p) := by
  unfold evV
  have hX := blk_new' w 34 #[.int .i64 4, .int .i64 en, .int .i64 n, .string (strB bs), .slice ra rl rc]
  have k1 : Upd [] w (w.alloc (.cells #[.int .i64 4, .int .i64 en, .int .i64 n, .string (strB bs), .slice ra rl rc] 34)) := (Upd.refl _ _).alloc _
  have h1 := h.upd k1 (by simp)
  have x0 := hX.cell (i := 0) rfl
  have x1 := hX.cell (i := 1) rfl
  have x2 := hX.cell (i := 2) rfl
  have x3 := hX.cell (i := 3) rfl
  have hs := rp_stream_f h1 hn
  go_enter Try.func45, Try.ntmps45
  go_wp2_with fail
  refine hs.mono ?_
  rintro e w' ⟨rfl, rfl⟩
  go_wp2_with fail
  go_ret2
  exact ⟨rfl, (RPost.refl h1).pre k1⟩

set_option maxHeartbeats 1000000 in
set_option maxRecDepth 100000 in
theorem rv_none5 (en n : Int) (bs : List UInt8) (ra : Option Addr) (rl rc : Nat) (h : RPortAt w base c L p) (hn : p.at? en = none) :
    Calls Try.prog 45 #[.pointer (some ⟨c, 0, none⟩), evV 5 en n bs ra rl rc] w (REvPost w base c L 0 2 p) := by
  unfold evV
  have hX := blk_new' w 34 #[.int .i64 5, .int .i64 en, .int .i64 n, .string (strB bs), .slice ra rl rc]
  have k1 : Upd [] w (w.alloc (.cells #[.int .i64 5, .int .i64 en, .int .i64 n, .string (strB bs), .slice ra rl rc] 34)) := (Upd.refl _ _).alloc _
  have h1 := h.upd k1 (by simp)
  have x0 := hX.cell (i := 0) rfl
  have x1 := hX.cell (i := 1) rfl
  have x2 := hX.cell (i := 2) rfl
  have x3 := hX.cell (i := 3) rfl
  have hs := rp_stream_f h1 hn
  go_enter Try.func45, Try.ntmps45
  go_wp2_with fail
  refine hs.mono ?_
  rintro e w' ⟨rfl, rfl⟩
  go_wp2_with fail
  go_ret2
  exact ⟨rfl, (RPost.refl h1).pre k1⟩

set_option maxHeartbeats 1000000 in
set_option maxRecDepth 100000 in
theorem rv_none6 (en n : Int) (bs : List UInt8) (ra : Option Addr) (rl rc : Nat) (h : RPortAt w base c L p) (hn : p.at? en = none) :
    Calls Try.prog 45 #[.pointer (some ⟨c, 0, none⟩), evV 6 en n bs ra rl rc] w (REvPost w base c L 0 2 p) := by
  unfold evV
  have hX := blk_new' w 34 #[.int .i64 6, .int .i64 en, .int .i64 n, .string (strB bs), .slice ra rl rc]
  have k1 : Upd [] w (w.alloc (.cells #[.int .i64 6, .int .i64 en, .int .i64 n, .string (strB bs), .slice ra rl rc] 34)) := (Upd.refl _ _).alloc _
  have h1 := h.upd k1 (by simp)
  have x0 := hX.cell (i := 0) rfl
  have x1 := hX.cell (i := 1) rfl
  have x2 := hX.cell (i := 2) rfl
  have x3 := hX.cell (i := 3) rfl
  have hs := rp_server_no h1 (Or.inl hn)
  go_enter Try.func45, Try.ntmps45
  go_wp2_with fail
  refine hs.mono ?_
  rintro e w' ⟨rfl, rfl⟩
  go_wp2_with fail
  go_ret2
  exact ⟨rfl, (RPost.refl h1).pre k1⟩

set_option maxHeartbeats 1000000 in
set_option maxRecDepth 100000 in
theorem rv_none7 (en n : Int) (bs : List UInt8) (ra : Option Addr) (rl rc : Nat) (h : RPortAt w base c L p) (hn : p.at? en = none) :
    Calls Try.prog 45 #[.pointer (some ⟨c, 0, none⟩), evV 7 en n bs ra rl rc] w (REvPost w base c L 0 2 p) := by
  unfold evV
  have hX := blk_new' w 34 #[.int .i64 7, .int .i64 en, .int .i64 n, .string (strB bs), .slice ra rl rc]
  have k1 : Upd [] w (w.alloc (.cells #[.int .i64 7, .int .i64 en, .int .i64 n, .string (strB bs), .slice ra rl rc] 34)) := (Upd.refl _ _).alloc _
  have h1 := h.upd k1 (by simp)
  have x0 := hX.cell (i := 0) rfl
  have x1 := hX.cell (i := 1) rfl
  have x2 := hX.cell (i := 2) rfl
  have x3 := hX.cell (i := 3) rfl
  have hs := rp_server_no h1 (Or.inl hn)
  go_enter Try.func45, Try.ntmps45
  go_wp2_with fail
  refine hs.mono ?_
  rintro e w' ⟨rfl, rfl⟩
  go_wp2_with fail
  go_ret2
  exact ⟨rfl, (RPost.refl h1).pre k1⟩

set_option maxHeartbeats 1000000 in
set_option maxRecDepth 100000 in
theorem rv_other (kd en n : Int) (bs : List UInt8) (ra : Option Addr) (rl rc : Nat) (h : RPortAt w base c L p) (hk : kd < 1 ∨ 8 < kd) :
    Calls Try.prog 45 #[.pointer (some ⟨c, 0, none⟩), evV kd en n bs ra rl rc] w (REvPost w base c L 0 2 p) := by
  unfold evV
  have hX := blk_new' w 34 #[.int .i64 kd, .int .i64 en, .int .i64 n, .string (strB bs), .slice ra rl rc]
  have k1 : Upd [] w (w.alloc (.cells #[.int .i64 kd, .int .i64 en, .int .i64 n, .string (strB bs), .slice ra rl rc] 34)) := (Upd.refl _ _).alloc _
  have h1 := h.upd k1 (by simp)
  have x0 := hX.cell (i := 0) rfl
  have x1 := hX.cell (i := 1) rfl
  have x2 := hX.cell (i := 2) rfl
  have x3 := hX.cell (i := 3) rfl
  have q1 : ¬ kd = 1 := by omega
  have r1 : (kd == 1) = false := by simp; omega
  have q2 : ¬ kd = 2 := by omega
  have r2 : (kd == 2) = false := by simp; omega
  have q3 : ¬ kd = 3 := by omega
  have r3 : (kd == 3) = false := by simp; omega
  have q4 : ¬ kd = 4 := by omega
  have r4 : (kd == 4) = false := by simp; omega
  have q5 : ¬ kd = 5 := by omega
  have r5 : (kd == 5) = false := by simp; omega
  have q6 : ¬ kd = 6 := by omega
  have r6 : (kd == 6) = false := by simp; omega
  have q7 : ¬ kd = 7 := by omega
  have r7 : (kd == 7) = false := by simp; omega
  have q8 : ¬ kd = 8 := by omega
  have r8 : (kd == 8) = false := by simp; omega
  go_enter Try.func45, Try.ntmps45
  go_wp2_with fail
  go_ret2
  exact ⟨rfl, (RPost.refl h1).pre k1⟩

set_option maxHeartbeats 1000000 in
set_option maxRecDepth 100000 in
theorem rv_gram_end (en n : Int) (bs : List UInt8) (ra : Option Addr) (rl rc : Nat) (h : RPortAt w base c L p) (hbad : ¬ en = p.ends.length) :
    Calls Try.prog 45 #[.pointer (some ⟨c, 0, none⟩), evV 8 en n bs ra rl rc] w (REvPost w base c L 0 2 p) := by
  unfold evV
  have hX := blk_new' w 34 #[.int .i64 8, .int .i64 en, .int .i64 n, .string (strB bs), .slice ra rl rc]
  have k1 : Upd [] w (w.alloc (.cells #[.int .i64 8, .int .i64 en, .int .i64 n, .string (strB bs), .slice ra rl rc] 34)) := (Upd.refl _ _).alloc _
  have h1 := h.upd k1 (by simp)
  have x0 := hX.cell (i := 0) rfl
  have x1 := hX.cell (i := 1) rfl
  have x2 := hX.cell (i := 2) rfl
  have x3 := hX.cell (i := 3) rfl
  obtain ⟨aoe, cap, hve⟩ := h.veShape
  have b2 := h1.blk.cell (i := 2) rfl
  rw [hve] at b2
  obtain ⟨ys, hbo, _⟩ := h.box
  obtain ⟨bo, bc, hvx⟩ := hbo.shape
  have b3 := h1.blk.cell (i := 3) rfl
  rw [hvx] at b3
  have hz : (strB bs).size = bs.length := rfl
  have hbb : (en == (p.ends.length : Int)) = false := by simpa using hbad
  go_enter Try.func45, Try.ntmps45
  go_wp2_with fail
  go_ret2
  exact ⟨rfl, (RPost.refl h1).pre k1⟩

set_option maxHeartbeats 1000000 in
set_option maxRecDepth 100000 in
theorem rv_gram_long (n : Int) (bs : List UInt8) (ra : Option Addr) (rl rc : Nat) (h : RPortAt w base c L p) (hbad : 512 < bs.length) :
    Calls Try.prog 45 #[.pointer (some ⟨c, 0, none⟩), evV 8 p.ends.length n bs ra rl rc] w (REvPost w base c L 0 2 p) := by
  unfold evV
  have hX := blk_new' w 34 #[.int .i64 8, .int .i64 p.ends.length, .int .i64 n, .string (strB bs), .slice ra rl rc]
  have k1 : Upd [] w (w.alloc (.cells #[.int .i64 8, .int .i64 p.ends.length, .int .i64 n, .string (strB bs), .slice ra rl rc] 34)) := (Upd.refl _ _).alloc _
  have h1 := h.upd k1 (by simp)
  have x0 := hX.cell (i := 0) rfl
  have x1 := hX.cell (i := 1) rfl
  have x2 := hX.cell (i := 2) rfl
  have x3 := hX.cell (i := 3) rfl
  obtain ⟨aoe, cap, hve⟩ := h.veShape
  have b2 := h1.blk.cell (i := 2) rfl
  rw [hve] at b2
  obtain ⟨ys, hbo, _⟩ := h.box
  obtain ⟨bo, bc, hvx⟩ := hbo.shape
  have b3 := h1.blk.cell (i := 3) rfl
  rw [hvx] at b3
  have hz : (strB bs).size = bs.length := rfl

  go_enter Try.func45, Try.ntmps45
  go_wp2_with fail
  go_ret2
  exact ⟨rfl, (RPost.refl h1).pre k1⟩

set_option maxHeartbeats 1000000 in
set_option maxRecDepth 100000 in
theorem rv_gram_full (n : Int) (bs : List UInt8) (ra : Option Addr) (rl rc : Nat) (h : RPortAt w base c L p) (hbl : bs.length ≤ 512) (hbx : ¬ p.box.length < 8) :
    Calls Try.prog 45 #[.pointer (some ⟨c, 0, none⟩), evV 8 p.ends.length n bs ra rl rc] w (REvPost w base c L 0 4 p) := by
  unfold evV
  have hX := blk_new' w 34 #[.int .i64 8, .int .i64 p.ends.length, .int .i64 n, .string (strB bs), .slice ra rl rc]
  have k1 : Upd [] w (w.alloc (.cells #[.int .i64 8, .int .i64 p.ends.length, .int .i64 n, .string (strB bs), .slice ra rl rc] 34)) := (Upd.refl _ _).alloc _
  have h1 := h.upd k1 (by simp)
  have x0 := hX.cell (i := 0) rfl
  have x1 := hX.cell (i := 1) rfl
  have x2 := hX.cell (i := 2) rfl
  have x3 := hX.cell (i := 3) rfl
  obtain ⟨aoe, cap, hve⟩ := h.veShape
  have b2 := h1.blk.cell (i := 2) rfl
  rw [hve] at b2
  obtain ⟨ys, hbo, _⟩ := h.box
  obtain ⟨bo, bc, hvx⟩ := hbo.shape
  have b3 := h1.blk.cell (i := 3) rfl
  rw [hvx] at b3
  have hz : (strB bs).size = bs.length := rfl
  have hb1 : ¬ 512 < bs.length := by omega
  have hb2 : 8 ≤ p.box.length := by omega
  go_enter Try.func45, Try.ntmps45
  go_wp2_with fail
  go_ret2
  exact ⟨rfl, (RPost.refl h1).pre k1⟩

end

end Go.Proofs.Ytnbhgfnjnccakaa
