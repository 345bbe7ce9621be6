/- The walks of the document's port's Event, way by way (written by gen_rp4.py). -/
import Derived.Test.YtnbhgfnjnccakaaRP2
namespace Go.Proofs.Ytnbhgfnjnccakaa
open Go Go.RowKit
set_option linter.unusedVariables false

section
variable {w w1 w2 w3 : World} {base c : Nat} {L L1 : XLay} {p p1 : PortM}

theorem RPost.pre (h : RPost w1 base c L p1 w2) (hu : Upd [] w w1) : RPost w base c L p1 w2 := by
  obtain ⟨L', hP, hU, hW⟩ := h
  exact ⟨L', hP, (hu.mono (by simp)).trans_same hU, fun q hq => (hW q hq).imp id (fun h => Nat.le_trans hu.size h)⟩
theorem RPost.after (h : RPost w1 base c L1 p1 w2) (hU : Upd L.foot w w1) (hW : Within w L1.foot L.foot) : RPost w base c L p1 w2 := by
  obtain ⟨L', hP, hU', hW'⟩ := h
  exact ⟨L', hP, hU.trans hW hU', Within.trans hU hW hW'⟩
theorem RPost.mk' (hP : RPortAt w1 base c L1 p1) (hU : Upd L.foot w w1) (hW : Within w L1.foot L.foot) : RPost w base c L p1 w1 := ⟨L1, hP, hU, hW⟩

def REvPost (w : World) (base c : Nat) (L : XLay) (a b : Nat) (p' : PortM) (e : Ending) (w' : World) : Prop := e = .returned (.tuple #[.int .i64 a, .int .i64 b]) ∧ RPost w base c L p' w'

theorem rp_stream_t {i : Nat} {x : EndM} (h : RPortAt w base c L p) (hx : p.ends[i]? = some x) : Calls Try.prog 81 #[.pointer (some ⟨c, 0, none⟩), .int .i64 i] w fun e w' => e = .returned (.bool true) ∧ w = w' := by
  have := rp_stream i h
  rwa [there_t hx] at this
theorem rp_stream_f {k : Int} (h : RPortAt w base c L p) (hn : p.at? k = none) : Calls Try.prog 81 #[.pointer (some ⟨c, 0, none⟩), .int .i64 k] w fun e w' => e = .returned (.bool false) ∧ w = w' := by
  have := rp_stream k h
  rwa [there_f hn] at this

set_option maxHeartbeats 1000000 in
set_option maxRecDepth 100000 in
theorem rv_open_server (n : Int) (bs : List UInt8) (ra : Option Addr) (rl rc : Nat) {i : Nat} {x : EndM} (h : RPortAt w base c L p) (hx : p.ends[i]? = some x) (hc : ¬ i < p.clients) :
    Calls Try.prog 45 #[.pointer (some ⟨c, 0, none⟩), evV 1 i n bs ra rl rc] w (REvPost w base c L 0 2 p) := by
  unfold evV
  have hX := blk_new' w 34 #[.int .i64 1, .int .i64 i, .int .i64 n, .string (strB bs), .slice ra rl rc]
  have k1 : Upd [] w (w.alloc (.cells #[.int .i64 1, .int .i64 i, .int .i64 n, .string (strB bs), .slice ra rl rc] 34)) := (Upd.refl _ _).alloc _
  have h1 := h.upd k1 (by simp)
  have hs := rp_client_no (k := (i : Int)) h1 (Or.inr (by omega))
  obtain ⟨g, off, cap, hv, hg, _⟩ := h1.cells hx
  obtain ⟨c0, c1, c2, c3, c4, c5, hfz⟩ := h1.cellsAt hx hv
  have hil := (List.getElem?_eq_some_iff.1 hx).1
  have hfx := h.fine x (List.mem_of_getElem? hx)
  have hsm := h.small
  have x0 := hX.cell (i := 0) rfl
  have x1 := hX.cell (i := 1) rfl
  have x2 := hX.cell (i := 2) rfl
  have x3 := hX.cell (i := 3) rfl
  have b2 := h1.blk.cell (i := 2) rfl
  rw [hv] at b2
  have hXl : w.heap.size ∉ L.foot := h.fresh (Nat.le_refl _)
  have eadd : (⟨g, off, none⟩ : Addr).add (i * 6) = ⟨g, off + i * 6, none⟩ := addr_add _ _ _
  clear hfz
  go_enter Try.func45, Try.ntmps45
  go_wp2_with fail
  refine hs.mono ?_
  rintro e w' ⟨rfl, rfl⟩
  generalize w.alloc (.cells #[.int .i64 1, .int .i64 i, .int .i64 n, .string (strB bs), .slice ra rl rc] 34) = w1 at *
  go_wp2_with fail
  go_ret2
  exact ⟨rfl, (RPost.refl h1).pre k1⟩


set_option maxHeartbeats 1000000 in
set_option maxRecDepth 100000 in
theorem rv_open_busy (n : Int) (bs : List UInt8) (ra : Option Addr) (rl rc : Nat) {i : Nat} {x : EndM} (h : RPortAt w base c L p) (hx : p.ends[i]? = some x) (hc : i < p.clients) (hst : x.st ≠ 0) :
    Calls Try.prog 45 #[.pointer (some ⟨c, 0, none⟩), evV 1 i n bs ra rl rc] w (REvPost w base c L 0 151 p) := by
  unfold evV
  have hX := blk_new' w 34 #[.int .i64 1, .int .i64 i, .int .i64 n, .string (strB bs), .slice ra rl rc]
  have k1 : Upd [] w (w.alloc (.cells #[.int .i64 1, .int .i64 i, .int .i64 n, .string (strB bs), .slice ra rl rc] 34)) := (Upd.refl _ _).alloc _
  have h1 := h.upd k1 (by simp)
  have hs := rp_client_yes h1 hx hc
  obtain ⟨g, off, cap, hv, hg, _⟩ := h1.cells hx
  obtain ⟨c0, c1, c2, c3, c4, c5, hfz⟩ := h1.cellsAt hx hv
  have hil := (List.getElem?_eq_some_iff.1 hx).1
  have hfx := h.fine x (List.mem_of_getElem? hx)
  have hsm := h.small
  have x0 := hX.cell (i := 0) rfl
  have x1 := hX.cell (i := 1) rfl
  have x2 := hX.cell (i := 2) rfl
  have x3 := hX.cell (i := 3) rfl
  have b2 := h1.blk.cell (i := 2) rfl
  rw [hv] at b2
  have hXl : w.heap.size ∉ L.foot := h.fresh (Nat.le_refl _)
  have eadd : (⟨g, off, none⟩ : Addr).add (i * 6) = ⟨g, off + i * 6, none⟩ := addr_add _ _ _
  have hst' : ¬ (x.st : Int) = 0 := by omega
  have hst'' : ((x.st : Int) == 0) = false := by simp; omega
  clear hfz
  go_enter Try.func45, Try.ntmps45
  go_wp2_with fail
  refine hs.mono ?_
  rintro e w' ⟨rfl, rfl⟩
  generalize w.alloc (.cells #[.int .i64 1, .int .i64 i, .int .i64 n, .string (strB bs), .slice ra rl rc] 34) = w1 at *
  go_wp2_with fail
  go_ret2
  exact ⟨rfl, (RPost.refl h1).pre k1⟩


set_option maxHeartbeats 1000000 in
set_option maxRecDepth 100000 in
theorem rv_open_ok (n : Int) (bs : List UInt8) (ra : Option Addr) (rl rc : Nat) {i : Nat} {x : EndM} (h : RPortAt w base c L p) (hx : p.ends[i]? = some x) (hc : i < p.clients) (hst : x.st = 0) :
    Calls Try.prog 45 #[.pointer (some ⟨c, 0, none⟩), evV 1 i n bs ra rl rc] w (REvPost w base c L 0 0 (p.setEnd i { EndM.reset 1 with fresh := true })) := by
  unfold evV
  have hX := blk_new' w 34 #[.int .i64 1, .int .i64 i, .int .i64 n, .string (strB bs), .slice ra rl rc]
  have k1 : Upd [] w (w.alloc (.cells #[.int .i64 1, .int .i64 i, .int .i64 n, .string (strB bs), .slice ra rl rc] 34)) := (Upd.refl _ _).alloc _
  have h1 := h.upd k1 (by simp)
  have hs := rp_client_yes h1 hx hc
  obtain ⟨g, off, cap, hv, hg, _⟩ := h1.cells hx
  obtain ⟨c0, c1, c2, c3, c4, c5, hfz⟩ := h1.cellsAt hx hv
  have hil := (List.getElem?_eq_some_iff.1 hx).1
  have hfx := h.fine x (List.mem_of_getElem? hx)
  have hsm := h.small
  have x0 := hX.cell (i := 0) rfl
  have x1 := hX.cell (i := 1) rfl
  have x2 := hX.cell (i := 2) rfl
  have x3 := hX.cell (i := 3) rfl
  have b2 := h1.blk.cell (i := 2) rfl
  rw [hv] at b2
  have hXl : w.heap.size ∉ L.foot := h.fresh (Nat.le_refl _)
  have eadd : (⟨g, off, none⟩ : Addr).add (i * 6) = ⟨g, off + i * 6, none⟩ := addr_add _ _ _
  rw [hst] at c0
  clear hfz
  go_enter Try.func45, Try.ntmps45
  go_wp2_with fail
  refine hs.mono ?_
  rintro e w' ⟨rfl, rfl⟩
  generalize w.alloc (.cells #[.int .i64 1, .int .i64 i, .int .i64 n, .string (strB bs), .slice ra rl rc] 34) = w1 at *
  go_wp2_with fail
  have h2 := h1.upd ((Upd.refl [] w1).drew) (by simp)
  have b2 := h2.blk.cell (i := 2) rfl
  rw [hv] at b2
  obtain ⟨C, hC⟩ : ∃ C : World → Prop, C = fun w' => w'.cell? ⟨c, 2, none⟩ = some (.slice (some ⟨g, off, none⟩) p.ends.length cap) := ⟨_, rfl⟩
  have hCo : ∀ w', C w' → w'.cell? ⟨c, 2, none⟩ = some (.slice (some ⟨g, off, none⟩) p.ends.length cap) := fun w' h => by rw [hC] at h; exact h
  have hCi : ∀ w', w'.cell? ⟨c, 2, none⟩ = some (.slice (some ⟨g, off, none⟩) p.ends.length cap) → C w' := fun w' h => by rw [hC]; exact h
  have hC0 : C w1.drew := hCi _ b2
  have cc : ∀ x : { w' // C w' }, x.1.cell? ⟨c, 2, none⟩ = some (.slice (some ⟨g, off, none⟩) p.ends.length cap) := fun y => hCo _ y.2
  haveI : Nonempty { w' // C w' } := ⟨⟨_, hC0⟩⟩
  refine wp_region_fxl C [6] [8] [3] rfl (by kernel_rfl) hC0 (fun M => ?_)
  clear c0 c1 c2 c3 c4 c5 b2 x1 x2 x3 hX h hs
  have hF := rp_fresh 1 h2
  have hd : Upd [] w1 w1.drew := (Upd.refl _ _).drew
  generalize w1.drew = wd at *
  refine wpFx_pure rfl (fun K hK => ?_); go_simp; refine hK _ ?_; clear hK K
  refine wpFx_pure rfl (fun K hK => ?_); go_simp; refine hK _ ?_; clear hK K
  refine wpFx_pure rfl (fun K hK => ?_); go_simp; refine hK _ ?_; clear hK K
  refine wpFx_load rfl rfl (fun K hK => ?_); go_simp; refine hK _ ?_; clear hK K
  refine wpFx_pure rfl (fun K hK => ?_); go_simp; refine hK _ ?_; clear hK K
  refine wpFx_pure rfl (fun K hK => ?_); go_simp; refine hK _ ?_; clear hK K
  refine wpFx_es rfl rfl (fun K hK => ?_); go_simp
  refine hF.mono ?_
  rintro e w3 ⟨B, rfl, hB, hR, hU3⟩
  have h3 := h2.upd hU3 (by simp)
  have b3 := h3.blk.cell (i := 2) rfl
  rw [hv] at b3
  refine hK _ _ (hCi _ b3) ?_
  clear hK K
  obtain ⟨d0, d1, d2, d3, d4, d5, hfz⟩ := h3.cellsAt hx hv
  have f0 := hfz (off + i * 6)
  have f1 := hfz (off + i * 6 + 1)
  have f2 := hfz (off + i * 6 + 2)
  have f3 := hfz (off + i * 6 + 3)
  have f4 := hfz (off + i * 6 + 4)
  have f5 := hfz (off + i * 6 + 5)
  clear hfz
  refine wpFx_pure rfl (fun K hK => ?_); go_simp; refine hK _ ?_; clear hK K
  refine wpFx_et rfl rfl rfl (fun K hK => ?_); go_simp
  refine hK _ _ ?_; clear hK K
  refine wpFx_nil ?_
  generalize hw4 : (((((w3.setCell ⟨g, off + i * 6, none⟩ (.int .i64 1)).setCell ⟨g, off + i * 6 + 1, none⟩ (.int .i64 0)).setCell ⟨g, off + i * 6 + 2, none⟩ (.bool false)).setCell ⟨g, off + i * 6 + 3, none⟩ (.bool false)).setCell ⟨g, off + i * 6 + 4, none⟩ (.bool false)).setCell ⟨g, off + i * 6 + 5, none⟩ (.pointer (some ⟨B, 0, none⟩)) = w4 at *
  obtain ⟨hN, hNu, hNw⟩ := h2.renew (e := EndM.reset 1) hil hv hU3 hB hR rfl ⟨by decide, Nat.zero_le _⟩ hw4.symm
  clear hC hCo hCi hC0 cc M d0 d1 d2 d3 d4 d5 f0 f1 f2 f3 f4 f5 b2 b3 hw4 hF
  obtain ⟨d0, d1, d2, d3, d4, d5, hfz⟩ := hN.cellsAt (PortM.setEnd_get hil) hv
  have b4 : w4.cell? ⟨c, 2, none⟩ = some L.ve := hN.blk.cell (i := 2) rfl
  rw [hv] at b4
  have f2 := hfz (off + i * 6 + 2)
  have pp := hN.write_post (j := 2) (e' := { EndM.reset 1 with fresh := true }) (u := .bool true) (PortM.setEnd_get hil) hv (by decide) rfl rfl ⟨by decide, Nat.zero_le _⟩
  rw [PortM.setEnd_set] at pp
  clear hfz
  go_wp2_with fail
  go_ret2
  exact ⟨rfl, ((pp.after hNu hNw).pre hd).pre k1⟩


set_option maxHeartbeats 1000000 in
set_option maxRecDepth 100000 in
theorem rv_data_st (n : Int) (bs : List UInt8) (ra : Option Addr) (rl rc : Nat) {i : Nat} {x : EndM} (h : RPortAt w base c L p) (hx : p.ends[i]? = some x) (hst : x.st ≠ 1) :
    Calls Try.prog 45 #[.pointer (some ⟨c, 0, none⟩), evV 2 i n bs ra rl rc] w (REvPost w base c L 0 150 p) := by
  unfold evV
  have hX := blk_new' w 34 #[.int .i64 2, .int .i64 i, .int .i64 n, .string (strB bs), .slice ra rl rc]
  have k1 : Upd [] w (w.alloc (.cells #[.int .i64 2, .int .i64 i, .int .i64 n, .string (strB bs), .slice ra rl rc] 34)) := (Upd.refl _ _).alloc _
  have h1 := h.upd k1 (by simp)
  have hs := rp_stream_t h1 hx
  obtain ⟨g, off, cap, hv, hg, _⟩ := h1.cells hx
  obtain ⟨c0, c1, c2, c3, c4, c5, hfz⟩ := h1.cellsAt hx hv
  have hil := (List.getElem?_eq_some_iff.1 hx).1
  have hfx := h.fine x (List.mem_of_getElem? hx)
  have hsm := h.small
  have x0 := hX.cell (i := 0) rfl
  have x1 := hX.cell (i := 1) rfl
  have x2 := hX.cell (i := 2) rfl
  have x3 := hX.cell (i := 3) rfl
  have b2 := h1.blk.cell (i := 2) rfl
  rw [hv] at b2
  have hXl : w.heap.size ∉ L.foot := h.fresh (Nat.le_refl _)
  have eadd : (⟨g, off, none⟩ : Addr).add (i * 6) = ⟨g, off + i * 6, none⟩ := addr_add _ _ _
  have hst' : ¬ (x.st : Int) = 1 := by omega
  have hst'' : ((x.st : Int) == 1) = false := by simp; omega
  clear hfz
  go_enter Try.func45, Try.ntmps45
  go_wp2_with fail
  refine hs.mono ?_
  rintro e w' ⟨rfl, rfl⟩
  generalize w.alloc (.cells #[.int .i64 2, .int .i64 i, .int .i64 n, .string (strB bs), .slice ra rl rc] 34) = w1 at *
  go_wp2_with fail
  go_ret2
  exact ⟨rfl, (RPost.refl h1).pre k1⟩


set_option maxHeartbeats 1000000 in
set_option maxRecDepth 100000 in
theorem rv_data_th (n : Int) (bs : List UInt8) (ra : Option Addr) (rl rc : Nat) {i : Nat} {x : EndM} (h : RPortAt w base c L p) (hx : p.ends[i]? = some x) (hst : x.st = 1) (hth : x.theirs = true) :
    Calls Try.prog 45 #[.pointer (some ⟨c, 0, none⟩), evV 2 i n bs ra rl rc] w (REvPost w base c L 0 150 p) := by
  unfold evV
  have hX := blk_new' w 34 #[.int .i64 2, .int .i64 i, .int .i64 n, .string (strB bs), .slice ra rl rc]
  have k1 : Upd [] w (w.alloc (.cells #[.int .i64 2, .int .i64 i, .int .i64 n, .string (strB bs), .slice ra rl rc] 34)) := (Upd.refl _ _).alloc _
  have h1 := h.upd k1 (by simp)
  have hs := rp_stream_t h1 hx
  obtain ⟨g, off, cap, hv, hg, _⟩ := h1.cells hx
  obtain ⟨c0, c1, c2, c3, c4, c5, hfz⟩ := h1.cellsAt hx hv
  have hil := (List.getElem?_eq_some_iff.1 hx).1
  have hfx := h.fine x (List.mem_of_getElem? hx)
  have hsm := h.small
  have x0 := hX.cell (i := 0) rfl
  have x1 := hX.cell (i := 1) rfl
  have x2 := hX.cell (i := 2) rfl
  have x3 := hX.cell (i := 3) rfl
  have b2 := h1.blk.cell (i := 2) rfl
  rw [hv] at b2
  have hXl : w.heap.size ∉ L.foot := h.fresh (Nat.le_refl _)
  have eadd : (⟨g, off, none⟩ : Addr).add (i * 6) = ⟨g, off + i * 6, none⟩ := addr_add _ _ _
  rw [hst] at c0
  rw [hth] at c3
  clear hfz
  go_enter Try.func45, Try.ntmps45
  go_wp2_with fail
  refine hs.mono ?_
  rintro e w' ⟨rfl, rfl⟩
  generalize w.alloc (.cells #[.int .i64 2, .int .i64 i, .int .i64 n, .string (strB bs), .slice ra rl rc] 34) = w1 at *
  go_wp2_with fail
  go_ret2
  exact ⟨rfl, (RPost.refl h1).pre k1⟩


set_option maxHeartbeats 1000000 in
set_option maxRecDepth 100000 in
theorem rv_fin_st (n : Int) (bs : List UInt8) (ra : Option Addr) (rl rc : Nat) {i : Nat} {x : EndM} (h : RPortAt w base c L p) (hx : p.ends[i]? = some x) (hst : x.st ≠ 1) :
    Calls Try.prog 45 #[.pointer (some ⟨c, 0, none⟩), evV 3 i n bs ra rl rc] w (REvPost w base c L 0 150 p) := by
  unfold evV
  have hX := blk_new' w 34 #[.int .i64 3, .int .i64 i, .int .i64 n, .string (strB bs), .slice ra rl rc]
  have k1 : Upd [] w (w.alloc (.cells #[.int .i64 3, .int .i64 i, .int .i64 n, .string (strB bs), .slice ra rl rc] 34)) := (Upd.refl _ _).alloc _
  have h1 := h.upd k1 (by simp)
  have hs := rp_stream_t h1 hx
  obtain ⟨g, off, cap, hv, hg, _⟩ := h1.cells hx
  obtain ⟨c0, c1, c2, c3, c4, c5, hfz⟩ := h1.cellsAt hx hv
  have hil := (List.getElem?_eq_some_iff.1 hx).1
  have hfx := h.fine x (List.mem_of_getElem? hx)
  have hsm := h.small
  have x0 := hX.cell (i := 0) rfl
  have x1 := hX.cell (i := 1) rfl
  have x2 := hX.cell (i := 2) rfl
  have x3 := hX.cell (i := 3) rfl
  have b2 := h1.blk.cell (i := 2) rfl
  rw [hv] at b2
  have hXl : w.heap.size ∉ L.foot := h.fresh (Nat.le_refl _)
  have eadd : (⟨g, off, none⟩ : Addr).add (i * 6) = ⟨g, off + i * 6, none⟩ := addr_add _ _ _
  have hst' : ¬ (x.st : Int) = 1 := by omega
  have hst'' : ((x.st : Int) == 1) = false := by simp; omega
  clear hfz
  go_enter Try.func45, Try.ntmps45
  go_wp2_with fail
  refine hs.mono ?_
  rintro e w' ⟨rfl, rfl⟩
  generalize w.alloc (.cells #[.int .i64 3, .int .i64 i, .int .i64 n, .string (strB bs), .slice ra rl rc] 34) = w1 at *
  go_wp2_with fail
  go_ret2
  exact ⟨rfl, (RPost.refl h1).pre k1⟩


set_option maxHeartbeats 1000000 in
set_option maxRecDepth 100000 in
theorem rv_fin_th (n : Int) (bs : List UInt8) (ra : Option Addr) (rl rc : Nat) {i : Nat} {x : EndM} (h : RPortAt w base c L p) (hx : p.ends[i]? = some x) (hst : x.st = 1) (hth : x.theirs = true) :
    Calls Try.prog 45 #[.pointer (some ⟨c, 0, none⟩), evV 3 i n bs ra rl rc] w (REvPost w base c L 0 150 p) := by
  unfold evV
  have hX := blk_new' w 34 #[.int .i64 3, .int .i64 i, .int .i64 n, .string (strB bs), .slice ra rl rc]
  have k1 : Upd [] w (w.alloc (.cells #[.int .i64 3, .int .i64 i, .int .i64 n, .string (strB bs), .slice ra rl rc] 34)) := (Upd.refl _ _).alloc _
  have h1 := h.upd k1 (by simp)
  have hs := rp_stream_t h1 hx
  obtain ⟨g, off, cap, hv, hg, _⟩ := h1.cells hx
  obtain ⟨c0, c1, c2, c3, c4, c5, hfz⟩ := h1.cellsAt hx hv
  have hil := (List.getElem?_eq_some_iff.1 hx).1
  have hfx := h.fine x (List.mem_of_getElem? hx)
  have hsm := h.small
  have x0 := hX.cell (i := 0) rfl
  have x1 := hX.cell (i := 1) rfl
  have x2 := hX.cell (i := 2) rfl
  have x3 := hX.cell (i := 3) rfl
  have b2 := h1.blk.cell (i := 2) rfl
  rw [hv] at b2
  have hXl : w.heap.size ∉ L.foot := h.fresh (Nat.le_refl _)
  have eadd : (⟨g, off, none⟩ : Addr).add (i * 6) = ⟨g, off + i * 6, none⟩ := addr_add _ _ _
  rw [hst] at c0
  rw [hth] at c3
  clear hfz
  go_enter Try.func45, Try.ntmps45
  go_wp2_with fail
  refine hs.mono ?_
  rintro e w' ⟨rfl, rfl⟩
  generalize w.alloc (.cells #[.int .i64 3, .int .i64 i, .int .i64 n, .string (strB bs), .slice ra rl rc] 34) = w1 at *
  go_wp2_with fail
  go_ret2
  exact ⟨rfl, (RPost.refl h1).pre k1⟩


set_option maxHeartbeats 1000000 in
set_option maxRecDepth 100000 in
theorem rv_fin_ok (n : Int) (bs : List UInt8) (ra : Option Addr) (rl rc : Nat) {i : Nat} {x : EndM} (h : RPortAt w base c L p) (hx : p.ends[i]? = some x) (hst : x.st = 1) (hth : x.theirs = false) :
    Calls Try.prog 45 #[.pointer (some ⟨c, 0, none⟩), evV 3 i n bs ra rl rc] w (REvPost w base c L 0 0 (p.setEnd i { x with theirs := true })) := by
  unfold evV
  have hX := blk_new' w 34 #[.int .i64 3, .int .i64 i, .int .i64 n, .string (strB bs), .slice ra rl rc]
  have k1 : Upd [] w (w.alloc (.cells #[.int .i64 3, .int .i64 i, .int .i64 n, .string (strB bs), .slice ra rl rc] 34)) := (Upd.refl _ _).alloc _
  have h1 := h.upd k1 (by simp)
  have hs := rp_stream_t h1 hx
  obtain ⟨g, off, cap, hv, hg, _⟩ := h1.cells hx
  obtain ⟨c0, c1, c2, c3, c4, c5, hfz⟩ := h1.cellsAt hx hv
  have hil := (List.getElem?_eq_some_iff.1 hx).1
  have hfx := h.fine x (List.mem_of_getElem? hx)
  have hsm := h.small
  have x0 := hX.cell (i := 0) rfl
  have x1 := hX.cell (i := 1) rfl
  have x2 := hX.cell (i := 2) rfl
  have x3 := hX.cell (i := 3) rfl
  have b2 := h1.blk.cell (i := 2) rfl
  rw [hv] at b2
  have hXl : w.heap.size ∉ L.foot := h.fresh (Nat.le_refl _)
  have eadd : (⟨g, off, none⟩ : Addr).add (i * 6) = ⟨g, off + i * 6, none⟩ := addr_add _ _ _
  rw [hst] at c0
  rw [hth] at c3
  have f3 := hfz (off + i * 6 + 3)
  clear hfz
  go_enter Try.func45, Try.ntmps45
  go_wp2_with fail
  refine hs.mono ?_
  rintro e w' ⟨rfl, rfl⟩
  generalize w.alloc (.cells #[.int .i64 3, .int .i64 i, .int .i64 n, .string (strB bs), .slice ra rl rc] 34) = w1 at *
  have pp := h1.write_post (j := 3) (e' := { x with theirs := true }) (u := .bool true) hx hv (by decide) rfl rfl hfx
  go_wp2_with fail
  go_ret2
  exact ⟨rfl, pp.pre k1⟩


set_option maxHeartbeats 1000000 in
set_option maxRecDepth 100000 in
theorem rv_reset_no (n : Int) (bs : List UInt8) (ra : Option Addr) (rl rc : Nat) {i : Nat} {x : EndM} (h : RPortAt w base c L p) (hx : p.ends[i]? = some x) (hst : x.st = 0 ∨ x.st = 3) :
    Calls Try.prog 45 #[.pointer (some ⟨c, 0, none⟩), evV 4 i n bs ra rl rc] w (REvPost w base c L 0 150 p) := by
  unfold evV
  have hX := blk_new' w 34 #[.int .i64 4, .int .i64 i, .int .i64 n, .string (strB bs), .slice ra rl rc]
  have k1 : Upd [] w (w.alloc (.cells #[.int .i64 4, .int .i64 i, .int .i64 n, .string (strB bs), .slice ra rl rc] 34)) := (Upd.refl _ _).alloc _
  have h1 := h.upd k1 (by simp)
  have hs := rp_stream_t h1 hx
  obtain ⟨g, off, cap, hv, hg, _⟩ := h1.cells hx
  obtain ⟨c0, c1, c2, c3, c4, c5, hfz⟩ := h1.cellsAt hx hv
  have hil := (List.getElem?_eq_some_iff.1 hx).1
  have hfx := h.fine x (List.mem_of_getElem? hx)
  have hsm := h.small
  have x0 := hX.cell (i := 0) rfl
  have x1 := hX.cell (i := 1) rfl
  have x2 := hX.cell (i := 2) rfl
  have x3 := hX.cell (i := 3) rfl
  have b2 := h1.blk.cell (i := 2) rfl
  rw [hv] at b2
  have hXl : w.heap.size ∉ L.foot := h.fresh (Nat.le_refl _)
  have eadd : (⟨g, off, none⟩ : Addr).add (i * 6) = ⟨g, off + i * 6, none⟩ := addr_add _ _ _
  clear hfz
  go_enter Try.func45, Try.ntmps45
  go_wp2_with fail
  refine hs.mono ?_
  rintro e w' ⟨rfl, rfl⟩
  generalize w.alloc (.cells #[.int .i64 4, .int .i64 i, .int .i64 n, .string (strB bs), .slice ra rl rc] 34) = w1 at *
  rcases hst with hst | hst
  · rw [hst] at c0
    go_wp2_with fail
    go_ret2
    exact ⟨rfl, (RPost.refl h1).pre k1⟩
  · rw [hst] at c0
    go_wp2_with fail
    go_ret2
    exact ⟨rfl, (RPost.refl h1).pre k1⟩


set_option maxHeartbeats 1000000 in
set_option maxRecDepth 100000 in
theorem rv_reset_fresh (n : Int) (bs : List UInt8) (ra : Option Addr) (rl rc : Nat) {i : Nat} {x : EndM} (h : RPortAt w base c L p) (hx : p.ends[i]? = some x) (hst : x.st ≠ 0) (hst3 : x.st ≠ 3) (hfr : x.fresh = true) :
    Calls Try.prog 45 #[.pointer (some ⟨c, 0, none⟩), evV 4 i n bs ra rl rc] w (REvPost w base c L 0 0 (p.setEnd i (EndM.reset 0))) := by
  unfold evV
  have hX := blk_new' w 34 #[.int .i64 4, .int .i64 i, .int .i64 n, .string (strB bs), .slice ra rl rc]
  have k1 : Upd [] w (w.alloc (.cells #[.int .i64 4, .int .i64 i, .int .i64 n, .string (strB bs), .slice ra rl rc] 34)) := (Upd.refl _ _).alloc _
  have h1 := h.upd k1 (by simp)
  have hs := rp_stream_t h1 hx
  obtain ⟨g, off, cap, hv, hg, _⟩ := h1.cells hx
  obtain ⟨c0, c1, c2, c3, c4, c5, hfz⟩ := h1.cellsAt hx hv
  have hil := (List.getElem?_eq_some_iff.1 hx).1
  have hfx := h.fine x (List.mem_of_getElem? hx)
  have hsm := h.small
  have x0 := hX.cell (i := 0) rfl
  have x1 := hX.cell (i := 1) rfl
  have x2 := hX.cell (i := 2) rfl
  have x3 := hX.cell (i := 3) rfl
  have b2 := h1.blk.cell (i := 2) rfl
  rw [hv] at b2
  have hXl : w.heap.size ∉ L.foot := h.fresh (Nat.le_refl _)
  have eadd : (⟨g, off, none⟩ : Addr).add (i * 6) = ⟨g, off + i * 6, none⟩ := addr_add _ _ _
  have hst' : ¬ (x.st : Int) = 0 := by omega
  have hst'' : ¬ (x.st : Int) = 3 := by omega
  have hb0 : ((x.st : Int) == 0) = false := by simp; omega
  have hb3 : ((x.st : Int) == 3) = false := by simp; omega
  rw [hfr] at c2
  clear hfz
  go_enter Try.func45, Try.ntmps45
  go_wp2_with fail
  refine hs.mono ?_
  rintro e w' ⟨rfl, rfl⟩
  generalize w.alloc (.cells #[.int .i64 4, .int .i64 i, .int .i64 n, .string (strB bs), .slice ra rl rc] 34) = w1 at *
  go_wp2_with fail
  have h2 := h1.upd ((Upd.refl [] w1).drew) (by simp)
  have b2 := h2.blk.cell (i := 2) rfl
  rw [hv] at b2
  obtain ⟨C, hC⟩ : ∃ C : World → Prop, C = fun w' => w'.cell? ⟨c, 2, none⟩ = some (.slice (some ⟨g, off, none⟩) p.ends.length cap) := ⟨_, rfl⟩
  have hCo : ∀ w', C w' → w'.cell? ⟨c, 2, none⟩ = some (.slice (some ⟨g, off, none⟩) p.ends.length cap) := fun w' h => by rw [hC] at h; exact h
  have hCi : ∀ w', w'.cell? ⟨c, 2, none⟩ = some (.slice (some ⟨g, off, none⟩) p.ends.length cap) → C w' := fun w' h => by rw [hC]; exact h
  have hC0 : C w1.drew := hCi _ b2
  have cc : ∀ x : { w' // C w' }, x.1.cell? ⟨c, 2, none⟩ = some (.slice (some ⟨g, off, none⟩) p.ends.length cap) := fun y => hCo _ y.2
  haveI : Nonempty { w' // C w' } := ⟨⟨_, hC0⟩⟩
  refine wp_region_fxl C [6] [8] [3] rfl (by kernel_rfl) hC0 (fun M => ?_)
  clear c0 c1 c2 c3 c4 c5 b2 x1 x2 x3 hX h hs
  have hF := rp_fresh 0 h2
  have hd : Upd [] w1 w1.drew := (Upd.refl _ _).drew
  generalize w1.drew = wd at *
  refine wpFx_pure rfl (fun K hK => ?_); go_simp; refine hK _ ?_; clear hK K
  refine wpFx_pure rfl (fun K hK => ?_); go_simp; refine hK _ ?_; clear hK K
  refine wpFx_pure rfl (fun K hK => ?_); go_simp; refine hK _ ?_; clear hK K
  refine wpFx_load rfl rfl (fun K hK => ?_); go_simp; refine hK _ ?_; clear hK K
  refine wpFx_pure rfl (fun K hK => ?_); go_simp; refine hK _ ?_; clear hK K
  refine wpFx_pure rfl (fun K hK => ?_); go_simp; refine hK _ ?_; clear hK K
  refine wpFx_es rfl rfl (fun K hK => ?_); go_simp
  refine hF.mono ?_
  rintro e w3 ⟨B, rfl, hB, hR, hU3⟩
  have h3 := h2.upd hU3 (by simp)
  have b3 := h3.blk.cell (i := 2) rfl
  rw [hv] at b3
  refine hK _ _ (hCi _ b3) ?_
  clear hK K
  obtain ⟨d0, d1, d2, d3, d4, d5, hfz⟩ := h3.cellsAt hx hv
  have f0 := hfz (off + i * 6)
  have f1 := hfz (off + i * 6 + 1)
  have f2 := hfz (off + i * 6 + 2)
  have f3 := hfz (off + i * 6 + 3)
  have f4 := hfz (off + i * 6 + 4)
  have f5 := hfz (off + i * 6 + 5)
  clear hfz
  refine wpFx_pure rfl (fun K hK => ?_); go_simp; refine hK _ ?_; clear hK K
  refine wpFx_et rfl rfl rfl (fun K hK => ?_); go_simp
  refine hK _ _ ?_; clear hK K
  refine wpFx_nil ?_
  generalize hw4 : (((((w3.setCell ⟨g, off + i * 6, none⟩ (.int .i64 0)).setCell ⟨g, off + i * 6 + 1, none⟩ (.int .i64 0)).setCell ⟨g, off + i * 6 + 2, none⟩ (.bool false)).setCell ⟨g, off + i * 6 + 3, none⟩ (.bool false)).setCell ⟨g, off + i * 6 + 4, none⟩ (.bool false)).setCell ⟨g, off + i * 6 + 5, none⟩ (.pointer (some ⟨B, 0, none⟩)) = w4 at *
  obtain ⟨hN, hNu, hNw⟩ := h2.renew (e := EndM.reset 0) hil hv hU3 hB hR rfl ⟨by decide, Nat.zero_le _⟩ hw4.symm
  clear hC hCo hCi hC0 cc M d0 d1 d2 d3 d4 d5 f0 f1 f2 f3 f4 f5 b2 b3 hw4 hF
  go_wp2_with fail
  go_ret2
  exact ⟨rfl, ((RPost.mk' hN hNu hNw).pre hd).pre k1⟩


set_option maxHeartbeats 1000000 in
set_option maxRecDepth 100000 in
theorem rv_reset_old (n : Int) (bs : List UInt8) (ra : Option Addr) (rl rc : Nat) {i : Nat} {x : EndM} (h : RPortAt w base c L p) (hx : p.ends[i]? = some x) (hst : x.st ≠ 0) (hst3 : x.st ≠ 3) (hfr : x.fresh = false) :
    Calls Try.prog 45 #[.pointer (some ⟨c, 0, none⟩), evV 4 i n bs ra rl rc] w (REvPost w base c L 0 0 (p.setEnd i (EndM.reset 3))) := by
  unfold evV
  have hX := blk_new' w 34 #[.int .i64 4, .int .i64 i, .int .i64 n, .string (strB bs), .slice ra rl rc]
  have k1 : Upd [] w (w.alloc (.cells #[.int .i64 4, .int .i64 i, .int .i64 n, .string (strB bs), .slice ra rl rc] 34)) := (Upd.refl _ _).alloc _
  have h1 := h.upd k1 (by simp)
  have hs := rp_stream_t h1 hx
  obtain ⟨g, off, cap, hv, hg, _⟩ := h1.cells hx
  obtain ⟨c0, c1, c2, c3, c4, c5, hfz⟩ := h1.cellsAt hx hv
  have hil := (List.getElem?_eq_some_iff.1 hx).1
  have hfx := h.fine x (List.mem_of_getElem? hx)
  have hsm := h.small
  have x0 := hX.cell (i := 0) rfl
  have x1 := hX.cell (i := 1) rfl
  have x2 := hX.cell (i := 2) rfl
  have x3 := hX.cell (i := 3) rfl
  have b2 := h1.blk.cell (i := 2) rfl
  rw [hv] at b2
  have hXl : w.heap.size ∉ L.foot := h.fresh (Nat.le_refl _)
  have eadd : (⟨g, off, none⟩ : Addr).add (i * 6) = ⟨g, off + i * 6, none⟩ := addr_add _ _ _
  have hst' : ¬ (x.st : Int) = 0 := by omega
  have hst'' : ¬ (x.st : Int) = 3 := by omega
  have hb0 : ((x.st : Int) == 0) = false := by simp; omega
  have hb3 : ((x.st : Int) == 3) = false := by simp; omega
  rw [hfr] at c2
  clear hfz
  go_enter Try.func45, Try.ntmps45
  go_wp2_with fail
  refine hs.mono ?_
  rintro e w' ⟨rfl, rfl⟩
  generalize w.alloc (.cells #[.int .i64 4, .int .i64 i, .int .i64 n, .string (strB bs), .slice ra rl rc] 34) = w1 at *
  go_wp2_with fail
  have h2 := h1.upd ((Upd.refl [] w1).drew) (by simp)
  have b2 := h2.blk.cell (i := 2) rfl
  rw [hv] at b2
  obtain ⟨C, hC⟩ : ∃ C : World → Prop, C = fun w' => w'.cell? ⟨c, 2, none⟩ = some (.slice (some ⟨g, off, none⟩) p.ends.length cap) := ⟨_, rfl⟩
  have hCo : ∀ w', C w' → w'.cell? ⟨c, 2, none⟩ = some (.slice (some ⟨g, off, none⟩) p.ends.length cap) := fun w' h => by rw [hC] at h; exact h
  have hCi : ∀ w', w'.cell? ⟨c, 2, none⟩ = some (.slice (some ⟨g, off, none⟩) p.ends.length cap) → C w' := fun w' h => by rw [hC]; exact h
  have hC0 : C w1.drew := hCi _ b2
  have cc : ∀ x : { w' // C w' }, x.1.cell? ⟨c, 2, none⟩ = some (.slice (some ⟨g, off, none⟩) p.ends.length cap) := fun y => hCo _ y.2
  haveI : Nonempty { w' // C w' } := ⟨⟨_, hC0⟩⟩
  refine wp_region_fxl C [6] [8] [3] rfl (by kernel_rfl) hC0 (fun M => ?_)
  clear c0 c1 c2 c3 c4 c5 b2 x1 x2 x3 hX h hs
  have hF := rp_fresh 3 h2
  have hd : Upd [] w1 w1.drew := (Upd.refl _ _).drew
  generalize w1.drew = wd at *
  refine wpFx_pure rfl (fun K hK => ?_); go_simp; refine hK _ ?_; clear hK K
  refine wpFx_pure rfl (fun K hK => ?_); go_simp; refine hK _ ?_; clear hK K
  refine wpFx_pure rfl (fun K hK => ?_); go_simp; refine hK _ ?_; clear hK K
  refine wpFx_load rfl rfl (fun K hK => ?_); go_simp; refine hK _ ?_; clear hK K
  refine wpFx_pure rfl (fun K hK => ?_); go_simp; refine hK _ ?_; clear hK K
  refine wpFx_pure rfl (fun K hK => ?_); go_simp; refine hK _ ?_; clear hK K
  refine wpFx_es rfl rfl (fun K hK => ?_); go_simp
  refine hF.mono ?_
  rintro e w3 ⟨B, rfl, hB, hR, hU3⟩
  have h3 := h2.upd hU3 (by simp)
  have b3 := h3.blk.cell (i := 2) rfl
  rw [hv] at b3
  refine hK _ _ (hCi _ b3) ?_
  clear hK K
  obtain ⟨d0, d1, d2, d3, d4, d5, hfz⟩ := h3.cellsAt hx hv
  have f0 := hfz (off + i * 6)
  have f1 := hfz (off + i * 6 + 1)
  have f2 := hfz (off + i * 6 + 2)
  have f3 := hfz (off + i * 6 + 3)
  have f4 := hfz (off + i * 6 + 4)
  have f5 := hfz (off + i * 6 + 5)
  clear hfz
  refine wpFx_pure rfl (fun K hK => ?_); go_simp; refine hK _ ?_; clear hK K
  refine wpFx_et rfl rfl rfl (fun K hK => ?_); go_simp
  refine hK _ _ ?_; clear hK K
  refine wpFx_nil ?_
  generalize hw4 : (((((w3.setCell ⟨g, off + i * 6, none⟩ (.int .i64 3)).setCell ⟨g, off + i * 6 + 1, none⟩ (.int .i64 0)).setCell ⟨g, off + i * 6 + 2, none⟩ (.bool false)).setCell ⟨g, off + i * 6 + 3, none⟩ (.bool false)).setCell ⟨g, off + i * 6 + 4, none⟩ (.bool false)).setCell ⟨g, off + i * 6 + 5, none⟩ (.pointer (some ⟨B, 0, none⟩)) = w4 at *
  obtain ⟨hN, hNu, hNw⟩ := h2.renew (e := EndM.reset 3) hil hv hU3 hB hR rfl ⟨by decide, Nat.zero_le _⟩ hw4.symm
  clear hC hCo hCi hC0 cc M d0 d1 d2 d3 d4 d5 f0 f1 f2 f3 f4 f5 b2 b3 hw4 hF
  go_wp2_with fail
  go_ret2
  exact ⟨rfl, ((RPost.mk' hN hNu hNw).pre hd).pre k1⟩


set_option maxHeartbeats 1000000 in
set_option maxRecDepth 100000 in
theorem rv_room_neg (n : Int) (bs : List UInt8) (ra : Option Addr) (rl rc : Nat) {i : Nat} {x : EndM} (h : RPortAt w base c L p) (hx : p.ends[i]? = some x) (hn : n < 0) :
    Calls Try.prog 45 #[.pointer (some ⟨c, 0, none⟩), evV 5 i n bs ra rl rc] w (REvPost w base c L 0 2 p) := by
  unfold evV
  have hX := blk_new' w 34 #[.int .i64 5, .int .i64 i, .int .i64 n, .string (strB bs), .slice ra rl rc]
  have k1 : Upd [] w (w.alloc (.cells #[.int .i64 5, .int .i64 i, .int .i64 n, .string (strB bs), .slice ra rl rc] 34)) := (Upd.refl _ _).alloc _
  have h1 := h.upd k1 (by simp)
  have hs := rp_stream_t h1 hx
  obtain ⟨g, off, cap, hv, hg, _⟩ := h1.cells hx
  obtain ⟨c0, c1, c2, c3, c4, c5, hfz⟩ := h1.cellsAt hx hv
  have hil := (List.getElem?_eq_some_iff.1 hx).1
  have hfx := h.fine x (List.mem_of_getElem? hx)
  have hsm := h.small
  have x0 := hX.cell (i := 0) rfl
  have x1 := hX.cell (i := 1) rfl
  have x2 := hX.cell (i := 2) rfl
  have x3 := hX.cell (i := 3) rfl
  have b2 := h1.blk.cell (i := 2) rfl
  rw [hv] at b2
  have hXl : w.heap.size ∉ L.foot := h.fresh (Nat.le_refl _)
  have eadd : (⟨g, off, none⟩ : Addr).add (i * 6) = ⟨g, off + i * 6, none⟩ := addr_add _ _ _
  clear hfz
  go_enter Try.func45, Try.ntmps45
  go_wp2_with fail
  refine hs.mono ?_
  rintro e w' ⟨rfl, rfl⟩
  generalize w.alloc (.cells #[.int .i64 5, .int .i64 i, .int .i64 n, .string (strB bs), .slice ra rl rc] 34) = w1 at *
  go_wp2_with fail
  go_ret2
  exact ⟨rfl, (RPost.refl h1).pre k1⟩


set_option maxHeartbeats 1000000 in
set_option maxRecDepth 100000 in
theorem rv_room_st (n : Int) (bs : List UInt8) (ra : Option Addr) (rl rc : Nat) {i : Nat} {x : EndM} (h : RPortAt w base c L p) (hx : p.ends[i]? = some x) (hn : ¬ n < 0) (hst : x.st ≠ 1) :
    Calls Try.prog 45 #[.pointer (some ⟨c, 0, none⟩), evV 5 i n bs ra rl rc] w (REvPost w base c L 0 150 p) := by
  unfold evV
  have hX := blk_new' w 34 #[.int .i64 5, .int .i64 i, .int .i64 n, .string (strB bs), .slice ra rl rc]
  have k1 : Upd [] w (w.alloc (.cells #[.int .i64 5, .int .i64 i, .int .i64 n, .string (strB bs), .slice ra rl rc] 34)) := (Upd.refl _ _).alloc _
  have h1 := h.upd k1 (by simp)
  have hs := rp_stream_t h1 hx
  obtain ⟨g, off, cap, hv, hg, _⟩ := h1.cells hx
  obtain ⟨c0, c1, c2, c3, c4, c5, hfz⟩ := h1.cellsAt hx hv
  have hil := (List.getElem?_eq_some_iff.1 hx).1
  have hfx := h.fine x (List.mem_of_getElem? hx)
  have hsm := h.small
  have x0 := hX.cell (i := 0) rfl
  have x1 := hX.cell (i := 1) rfl
  have x2 := hX.cell (i := 2) rfl
  have x3 := hX.cell (i := 3) rfl
  have b2 := h1.blk.cell (i := 2) rfl
  rw [hv] at b2
  have hXl : w.heap.size ∉ L.foot := h.fresh (Nat.le_refl _)
  have eadd : (⟨g, off, none⟩ : Addr).add (i * 6) = ⟨g, off + i * 6, none⟩ := addr_add _ _ _
  have hst' : ¬ (x.st : Int) = 1 := by omega
  have hst'' : ((x.st : Int) == 1) = false := by simp; omega
  clear hfz
  go_enter Try.func45, Try.ntmps45
  go_wp2_with fail
  refine hs.mono ?_
  rintro e w' ⟨rfl, rfl⟩
  generalize w.alloc (.cells #[.int .i64 5, .int .i64 i, .int .i64 n, .string (strB bs), .slice ra rl rc] 34) = w1 at *
  go_wp2_with fail
  go_ret2
  exact ⟨rfl, (RPost.refl h1).pre k1⟩


set_option maxHeartbeats 1000000 in
set_option maxRecDepth 100000 in
theorem rv_up_client (n : Int) (bs : List UInt8) (ra : Option Addr) (rl rc : Nat) {i : Nat} {x : EndM} (h : RPortAt w base c L p) (hx : p.ends[i]? = some x) (hc : i < p.clients) :
    Calls Try.prog 45 #[.pointer (some ⟨c, 0, none⟩), evV 6 i n bs ra rl rc] w (REvPost w base c L 0 2 p) := by
  unfold evV
  have hX := blk_new' w 34 #[.int .i64 6, .int .i64 i, .int .i64 n, .string (strB bs), .slice ra rl rc]
  have k1 : Upd [] w (w.alloc (.cells #[.int .i64 6, .int .i64 i, .int .i64 n, .string (strB bs), .slice ra rl rc] 34)) := (Upd.refl _ _).alloc _
  have h1 := h.upd k1 (by simp)
  have hs := rp_server_no (k := (i : Int)) h1 (Or.inr (by omega))
  obtain ⟨g, off, cap, hv, hg, _⟩ := h1.cells hx
  obtain ⟨c0, c1, c2, c3, c4, c5, hfz⟩ := h1.cellsAt hx hv
  have hil := (List.getElem?_eq_some_iff.1 hx).1
  have hfx := h.fine x (List.mem_of_getElem? hx)
  have hsm := h.small
  have x0 := hX.cell (i := 0) rfl
  have x1 := hX.cell (i := 1) rfl
  have x2 := hX.cell (i := 2) rfl
  have x3 := hX.cell (i := 3) rfl
  have b2 := h1.blk.cell (i := 2) rfl
  rw [hv] at b2
  have hXl : w.heap.size ∉ L.foot := h.fresh (Nat.le_refl _)
  have eadd : (⟨g, off, none⟩ : Addr).add (i * 6) = ⟨g, off + i * 6, none⟩ := addr_add _ _ _
  clear hfz
  go_enter Try.func45, Try.ntmps45
  go_wp2_with fail
  refine hs.mono ?_
  rintro e w' ⟨rfl, rfl⟩
  generalize w.alloc (.cells #[.int .i64 6, .int .i64 i, .int .i64 n, .string (strB bs), .slice ra rl rc] 34) = w1 at *
  go_wp2_with fail
  go_ret2
  exact ⟨rfl, (RPost.refl h1).pre k1⟩


set_option maxHeartbeats 1000000 in
set_option maxRecDepth 100000 in
theorem rv_up_st (n : Int) (bs : List UInt8) (ra : Option Addr) (rl rc : Nat) {i : Nat} {x : EndM} (h : RPortAt w base c L p) (hx : p.ends[i]? = some x) (hc : ¬ i < p.clients) (hst : x.st ≠ 2) :
    Calls Try.prog 45 #[.pointer (some ⟨c, 0, none⟩), evV 6 i n bs ra rl rc] w (REvPost w base c L 0 150 p) := by
  unfold evV
  have hX := blk_new' w 34 #[.int .i64 6, .int .i64 i, .int .i64 n, .string (strB bs), .slice ra rl rc]
  have k1 : Upd [] w (w.alloc (.cells #[.int .i64 6, .int .i64 i, .int .i64 n, .string (strB bs), .slice ra rl rc] 34)) := (Upd.refl _ _).alloc _
  have h1 := h.upd k1 (by simp)
  have hs := rp_server_yes h1 hx (by omega)
  obtain ⟨g, off, cap, hv, hg, _⟩ := h1.cells hx
  obtain ⟨c0, c1, c2, c3, c4, c5, hfz⟩ := h1.cellsAt hx hv
  have hil := (List.getElem?_eq_some_iff.1 hx).1
  have hfx := h.fine x (List.mem_of_getElem? hx)
  have hsm := h.small
  have x0 := hX.cell (i := 0) rfl
  have x1 := hX.cell (i := 1) rfl
  have x2 := hX.cell (i := 2) rfl
  have x3 := hX.cell (i := 3) rfl
  have b2 := h1.blk.cell (i := 2) rfl
  rw [hv] at b2
  have hXl : w.heap.size ∉ L.foot := h.fresh (Nat.le_refl _)
  have eadd : (⟨g, off, none⟩ : Addr).add (i * 6) = ⟨g, off + i * 6, none⟩ := addr_add _ _ _
  have hst' : ¬ (x.st : Int) = 2 := by omega
  have hst'' : ((x.st : Int) == 2) = false := by simp; omega
  clear hfz
  go_enter Try.func45, Try.ntmps45
  go_wp2_with fail
  refine hs.mono ?_
  rintro e w' ⟨rfl, rfl⟩
  generalize w.alloc (.cells #[.int .i64 6, .int .i64 i, .int .i64 n, .string (strB bs), .slice ra rl rc] 34) = w1 at *
  go_wp2_with fail
  go_ret2
  exact ⟨rfl, (RPost.refl h1).pre k1⟩


set_option maxHeartbeats 1000000 in
set_option maxRecDepth 100000 in
theorem rv_down_client (n : Int) (bs : List UInt8) (ra : Option Addr) (rl rc : Nat) {i : Nat} {x : EndM} (h : RPortAt w base c L p) (hx : p.ends[i]? = some x) (hc : i < p.clients) :
    Calls Try.prog 45 #[.pointer (some ⟨c, 0, none⟩), evV 7 i n bs ra rl rc] w (REvPost w base c L 0 2 p) := by
  unfold evV
  have hX := blk_new' w 34 #[.int .i64 7, .int .i64 i, .int .i64 n, .string (strB bs), .slice ra rl rc]
  have k1 : Upd [] w (w.alloc (.cells #[.int .i64 7, .int .i64 i, .int .i64 n, .string (strB bs), .slice ra rl rc] 34)) := (Upd.refl _ _).alloc _
  have h1 := h.upd k1 (by simp)
  have hs := rp_server_no (k := (i : Int)) h1 (Or.inr (by omega))
  obtain ⟨g, off, cap, hv, hg, _⟩ := h1.cells hx
  obtain ⟨c0, c1, c2, c3, c4, c5, hfz⟩ := h1.cellsAt hx hv
  have hil := (List.getElem?_eq_some_iff.1 hx).1
  have hfx := h.fine x (List.mem_of_getElem? hx)
  have hsm := h.small
  have x0 := hX.cell (i := 0) rfl
  have x1 := hX.cell (i := 1) rfl
  have x2 := hX.cell (i := 2) rfl
  have x3 := hX.cell (i := 3) rfl
  have b2 := h1.blk.cell (i := 2) rfl
  rw [hv] at b2
  have hXl : w.heap.size ∉ L.foot := h.fresh (Nat.le_refl _)
  have eadd : (⟨g, off, none⟩ : Addr).add (i * 6) = ⟨g, off + i * 6, none⟩ := addr_add _ _ _
  clear hfz
  go_enter Try.func45, Try.ntmps45
  go_wp2_with fail
  refine hs.mono ?_
  rintro e w' ⟨rfl, rfl⟩
  generalize w.alloc (.cells #[.int .i64 7, .int .i64 i, .int .i64 n, .string (strB bs), .slice ra rl rc] 34) = w1 at *
  go_wp2_with fail
  go_ret2
  exact ⟨rfl, (RPost.refl h1).pre k1⟩


set_option maxHeartbeats 1000000 in
set_option maxRecDepth 100000 in
theorem rv_down_st (n : Int) (bs : List UInt8) (ra : Option Addr) (rl rc : Nat) {i : Nat} {x : EndM} (h : RPortAt w base c L p) (hx : p.ends[i]? = some x) (hc : ¬ i < p.clients) (hst : x.st ≠ 2) :
    Calls Try.prog 45 #[.pointer (some ⟨c, 0, none⟩), evV 7 i n bs ra rl rc] w (REvPost w base c L 0 150 p) := by
  unfold evV
  have hX := blk_new' w 34 #[.int .i64 7, .int .i64 i, .int .i64 n, .string (strB bs), .slice ra rl rc]
  have k1 : Upd [] w (w.alloc (.cells #[.int .i64 7, .int .i64 i, .int .i64 n, .string (strB bs), .slice ra rl rc] 34)) := (Upd.refl _ _).alloc _
  have h1 := h.upd k1 (by simp)
  have hs := rp_server_yes h1 hx (by omega)
  obtain ⟨g, off, cap, hv, hg, _⟩ := h1.cells hx
  obtain ⟨c0, c1, c2, c3, c4, c5, hfz⟩ := h1.cellsAt hx hv
  have hil := (List.getElem?_eq_some_iff.1 hx).1
  have hfx := h.fine x (List.mem_of_getElem? hx)
  have hsm := h.small
  have x0 := hX.cell (i := 0) rfl
  have x1 := hX.cell (i := 1) rfl
  have x2 := hX.cell (i := 2) rfl
  have x3 := hX.cell (i := 3) rfl
  have b2 := h1.blk.cell (i := 2) rfl
  rw [hv] at b2
  have hXl : w.heap.size ∉ L.foot := h.fresh (Nat.le_refl _)
  have eadd : (⟨g, off, none⟩ : Addr).add (i * 6) = ⟨g, off + i * 6, none⟩ := addr_add _ _ _
  have hst' : ¬ (x.st : Int) = 2 := by omega
  have hst'' : ((x.st : Int) == 2) = false := by simp; omega
  clear hfz
  go_enter Try.func45, Try.ntmps45
  go_wp2_with fail
  refine hs.mono ?_
  rintro e w' ⟨rfl, rfl⟩
  generalize w.alloc (.cells #[.int .i64 7, .int .i64 i, .int .i64 n, .string (strB bs), .slice ra rl rc] 34) = w1 at *
  go_wp2_with fail
  go_ret2
  exact ⟨rfl, (RPost.refl h1).pre k1⟩


set_option maxHeartbeats 1000000 in
set_option maxRecDepth 100000 in
theorem rv_up_ok (n : Int) (bs : List UInt8) (ra : Option Addr) (rl rc : Nat) {i : Nat} {x : EndM} (h : RPortAt w base c L p) (hx : p.ends[i]? = some x) (hc : ¬ i < p.clients) (hst : x.st = 2) :
    Calls Try.prog 45 #[.pointer (some ⟨c, 0, none⟩), evV 6 i n bs ra rl rc] w (REvPost w base c L 0 0 (p.setEnd i (EndM.reset 1))) := by
  unfold evV
  have hX := blk_new' w 34 #[.int .i64 6, .int .i64 i, .int .i64 n, .string (strB bs), .slice ra rl rc]
  have k1 : Upd [] w (w.alloc (.cells #[.int .i64 6, .int .i64 i, .int .i64 n, .string (strB bs), .slice ra rl rc] 34)) := (Upd.refl _ _).alloc _
  have h1 := h.upd k1 (by simp)
  have hs := rp_server_yes h1 hx (by omega)
  obtain ⟨g, off, cap, hv, hg, _⟩ := h1.cells hx
  obtain ⟨c0, c1, c2, c3, c4, c5, hfz⟩ := h1.cellsAt hx hv
  have hil := (List.getElem?_eq_some_iff.1 hx).1
  have hfx := h.fine x (List.mem_of_getElem? hx)
  have hsm := h.small
  have x0 := hX.cell (i := 0) rfl
  have x1 := hX.cell (i := 1) rfl
  have x2 := hX.cell (i := 2) rfl
  have x3 := hX.cell (i := 3) rfl
  have b2 := h1.blk.cell (i := 2) rfl
  rw [hv] at b2
  have hXl : w.heap.size ∉ L.foot := h.fresh (Nat.le_refl _)
  have eadd : (⟨g, off, none⟩ : Addr).add (i * 6) = ⟨g, off + i * 6, none⟩ := addr_add _ _ _
  rw [hst] at c0
  clear hfz
  go_enter Try.func45, Try.ntmps45
  go_wp2_with fail
  refine hs.mono ?_
  rintro e w' ⟨rfl, rfl⟩
  generalize w.alloc (.cells #[.int .i64 6, .int .i64 i, .int .i64 n, .string (strB bs), .slice ra rl rc] 34) = w1 at *
  go_wp2_with fail
  have h2 := h1.upd ((Upd.refl [] w1).drew) (by simp)
  have b2 := h2.blk.cell (i := 2) rfl
  rw [hv] at b2
  obtain ⟨C, hC⟩ : ∃ C : World → Prop, C = fun w' => w'.cell? ⟨c, 2, none⟩ = some (.slice (some ⟨g, off, none⟩) p.ends.length cap) := ⟨_, rfl⟩
  have hCo : ∀ w', C w' → w'.cell? ⟨c, 2, none⟩ = some (.slice (some ⟨g, off, none⟩) p.ends.length cap) := fun w' h => by rw [hC] at h; exact h
  have hCi : ∀ w', w'.cell? ⟨c, 2, none⟩ = some (.slice (some ⟨g, off, none⟩) p.ends.length cap) → C w' := fun w' h => by rw [hC]; exact h
  have hC0 : C w1.drew := hCi _ b2
  have cc : ∀ x : { w' // C w' }, x.1.cell? ⟨c, 2, none⟩ = some (.slice (some ⟨g, off, none⟩) p.ends.length cap) := fun y => hCo _ y.2
  haveI : Nonempty { w' // C w' } := ⟨⟨_, hC0⟩⟩
  refine wp_region_fxl C [6] [8] [3] rfl (by kernel_rfl) hC0 (fun M => ?_)
  clear c0 c1 c2 c3 c4 c5 b2 x1 x2 x3 h hs
  have hF := rp_fresh 1 h2
  have hd : Upd [] w1 w1.drew := (Upd.refl _ _).drew
  generalize w1.drew = wd at *
  refine wpFx_pure rfl (fun K hK => ?_); go_simp; refine hK _ ?_; clear hK K
  refine wpFx_pure rfl (fun K hK => ?_); go_simp; refine hK _ ?_; clear hK K
  refine wpFx_pure rfl (fun K hK => ?_); go_simp; refine hK _ ?_; clear hK K
  refine wpFx_load rfl rfl (fun K hK => ?_); go_simp; refine hK _ ?_; clear hK K
  refine wpFx_pure rfl (fun K hK => ?_); go_simp; refine hK _ ?_; clear hK K
  refine wpFx_pure rfl (fun K hK => ?_); go_simp; refine hK _ ?_; clear hK K
  refine wpFx_es rfl rfl (fun K hK => ?_); go_simp
  refine hF.mono ?_
  rintro e w3 ⟨B, rfl, hB, hR, hU3⟩
  have h3 := h2.upd hU3 (by simp)
  have b3 := h3.blk.cell (i := 2) rfl
  rw [hv] at b3
  refine hK _ _ (hCi _ b3) ?_
  clear hK K
  obtain ⟨d0, d1, d2, d3, d4, d5, hfz⟩ := h3.cellsAt hx hv
  have f0 := hfz (off + i * 6)
  have f1 := hfz (off + i * 6 + 1)
  have f2 := hfz (off + i * 6 + 2)
  have f3 := hfz (off + i * 6 + 3)
  have f4 := hfz (off + i * 6 + 4)
  have f5 := hfz (off + i * 6 + 5)
  clear hfz
  refine wpFx_pure rfl (fun K hK => ?_); go_simp; refine hK _ ?_; clear hK K
  refine wpFx_et rfl rfl rfl (fun K hK => ?_); go_simp
  refine hK _ _ ?_; clear hK K
  refine wpFx_nil ?_
  generalize hw4 : (((((w3.setCell ⟨g, off + i * 6, none⟩ (.int .i64 1)).setCell ⟨g, off + i * 6 + 1, none⟩ (.int .i64 0)).setCell ⟨g, off + i * 6 + 2, none⟩ (.bool false)).setCell ⟨g, off + i * 6 + 3, none⟩ (.bool false)).setCell ⟨g, off + i * 6 + 4, none⟩ (.bool false)).setCell ⟨g, off + i * 6 + 5, none⟩ (.pointer (some ⟨B, 0, none⟩)) = w4 at *
  obtain ⟨hN, hNu, hNw⟩ := h2.renew (e := EndM.reset 1) hil hv hU3 hB hR rfl ⟨by decide, Nat.zero_le _⟩ hw4.symm
  clear hC hCo hCi hC0 cc M d0 d1 d2 d3 d4 d5 f0 f1 f2 f3 f4 f5 b2 b3 hw4 hF
  have hX4 := (hX.upd hd (by simp)).upd hNu (fun hq => hXl hq)
  have y0 := hX4.cell (i := 0) rfl
  go_wp2_with fail
  go_ret2
  exact ⟨rfl, ((RPost.mk' hN hNu hNw).pre hd).pre k1⟩


set_option maxHeartbeats 1000000 in
set_option maxRecDepth 100000 in
theorem rv_down_ok (n : Int) (bs : List UInt8) (ra : Option Addr) (rl rc : Nat) {i : Nat} {x : EndM} (h : RPortAt w base c L p) (hx : p.ends[i]? = some x) (hc : ¬ i < p.clients) (hst : x.st = 2) :
    Calls Try.prog 45 #[.pointer (some ⟨c, 0, none⟩), evV 7 i n bs ra rl rc] w (REvPost w base c L 0 0 (p.setEnd i (EndM.reset 3))) := by
  unfold evV
  have hX := blk_new' w 34 #[.int .i64 7, .int .i64 i, .int .i64 n, .string (strB bs), .slice ra rl rc]
  have k1 : Upd [] w (w.alloc (.cells #[.int .i64 7, .int .i64 i, .int .i64 n, .string (strB bs), .slice ra rl rc] 34)) := (Upd.refl _ _).alloc _
  have h1 := h.upd k1 (by simp)
  have hs := rp_server_yes h1 hx (by omega)
  obtain ⟨g, off, cap, hv, hg, _⟩ := h1.cells hx
  obtain ⟨c0, c1, c2, c3, c4, c5, hfz⟩ := h1.cellsAt hx hv
  have hil := (List.getElem?_eq_some_iff.1 hx).1
  have hfx := h.fine x (List.mem_of_getElem? hx)
  have hsm := h.small
  have x0 := hX.cell (i := 0) rfl
  have x1 := hX.cell (i := 1) rfl
  have x2 := hX.cell (i := 2) rfl
  have x3 := hX.cell (i := 3) rfl
  have b2 := h1.blk.cell (i := 2) rfl
  rw [hv] at b2
  have hXl : w.heap.size ∉ L.foot := h.fresh (Nat.le_refl _)
  have eadd : (⟨g, off, none⟩ : Addr).add (i * 6) = ⟨g, off + i * 6, none⟩ := addr_add _ _ _
  rw [hst] at c0
  clear hfz
  go_enter Try.func45, Try.ntmps45
  go_wp2_with fail
  refine hs.mono ?_
  rintro e w' ⟨rfl, rfl⟩
  generalize w.alloc (.cells #[.int .i64 7, .int .i64 i, .int .i64 n, .string (strB bs), .slice ra rl rc] 34) = w1 at *
  go_wp2_with fail
  have h2 := h1.upd ((Upd.refl [] w1).drew) (by simp)
  have b2 := h2.blk.cell (i := 2) rfl
  rw [hv] at b2
  obtain ⟨C, hC⟩ : ∃ C : World → Prop, C = fun w' => w'.cell? ⟨c, 2, none⟩ = some (.slice (some ⟨g, off, none⟩) p.ends.length cap) := ⟨_, rfl⟩
  have hCo : ∀ w', C w' → w'.cell? ⟨c, 2, none⟩ = some (.slice (some ⟨g, off, none⟩) p.ends.length cap) := fun w' h => by rw [hC] at h; exact h
  have hCi : ∀ w', w'.cell? ⟨c, 2, none⟩ = some (.slice (some ⟨g, off, none⟩) p.ends.length cap) → C w' := fun w' h => by rw [hC]; exact h
  have hC0 : C w1.drew := hCi _ b2
  have cc : ∀ x : { w' // C w' }, x.1.cell? ⟨c, 2, none⟩ = some (.slice (some ⟨g, off, none⟩) p.ends.length cap) := fun y => hCo _ y.2
  haveI : Nonempty { w' // C w' } := ⟨⟨_, hC0⟩⟩
  refine wp_region_fxl C [6] [8] [3] rfl (by kernel_rfl) hC0 (fun M => ?_)
  clear c0 c1 c2 c3 c4 c5 b2 x1 x2 x3 h hs
  have hF := rp_fresh 1 h2
  have hd : Upd [] w1 w1.drew := (Upd.refl _ _).drew
  generalize w1.drew = wd at *
  refine wpFx_pure rfl (fun K hK => ?_); go_simp; refine hK _ ?_; clear hK K
  refine wpFx_pure rfl (fun K hK => ?_); go_simp; refine hK _ ?_; clear hK K
  refine wpFx_pure rfl (fun K hK => ?_); go_simp; refine hK _ ?_; clear hK K
  refine wpFx_load rfl rfl (fun K hK => ?_); go_simp; refine hK _ ?_; clear hK K
  refine wpFx_pure rfl (fun K hK => ?_); go_simp; refine hK _ ?_; clear hK K
  refine wpFx_pure rfl (fun K hK => ?_); go_simp; refine hK _ ?_; clear hK K
  refine wpFx_es rfl rfl (fun K hK => ?_); go_simp
  refine hF.mono ?_
  rintro e w3 ⟨B, rfl, hB, hR, hU3⟩
  have h3 := h2.upd hU3 (by simp)
  have b3 := h3.blk.cell (i := 2) rfl
  rw [hv] at b3
  refine hK _ _ (hCi _ b3) ?_
  clear hK K
  obtain ⟨d0, d1, d2, d3, d4, d5, hfz⟩ := h3.cellsAt hx hv
  have f0 := hfz (off + i * 6)
  have f1 := hfz (off + i * 6 + 1)
  have f2 := hfz (off + i * 6 + 2)
  have f3 := hfz (off + i * 6 + 3)
  have f4 := hfz (off + i * 6 + 4)
  have f5 := hfz (off + i * 6 + 5)
  clear hfz
  refine wpFx_pure rfl (fun K hK => ?_); go_simp; refine hK _ ?_; clear hK K
  refine wpFx_et rfl rfl rfl (fun K hK => ?_); go_simp
  refine hK _ _ ?_; clear hK K
  refine wpFx_nil ?_
  generalize hw4 : (((((w3.setCell ⟨g, off + i * 6, none⟩ (.int .i64 1)).setCell ⟨g, off + i * 6 + 1, none⟩ (.int .i64 0)).setCell ⟨g, off + i * 6 + 2, none⟩ (.bool false)).setCell ⟨g, off + i * 6 + 3, none⟩ (.bool false)).setCell ⟨g, off + i * 6 + 4, none⟩ (.bool false)).setCell ⟨g, off + i * 6 + 5, none⟩ (.pointer (some ⟨B, 0, none⟩)) = w4 at *
  obtain ⟨hN, hNu, hNw⟩ := h2.renew (e := EndM.reset 1) hil hv hU3 hB hR rfl ⟨by decide, Nat.zero_le _⟩ hw4.symm
  clear hC hCo hCi hC0 cc M d0 d1 d2 d3 d4 d5 f0 f1 f2 f3 f4 f5 b2 b3 hw4 hF
  have hX4 := (hX.upd hd (by simp)).upd hNu (fun hq => hXl hq)
  have y0 := hX4.cell (i := 0) rfl
  have hvB : (L.renew wd.heap.size i B (.slice none 0 0)).ve = .slice (some ⟨g, off, none⟩) p.ends.length cap := hv
  have hilB : i < (p.setEnd i (EndM.reset 1)).ends.length := by rw [PortM.setEnd_len]; exact hil
  go_wp2_with fail
  have h2B := hN.upd ((Upd.refl [] w4).drew) (by simp)
  have b2B := h2B.blk.cell (i := 2) rfl
  rw [hvB] at b2B
  obtain ⟨C, hC⟩ : ∃ C : World → Prop, C = fun w' => w'.cell? ⟨c, 2, none⟩ = some (.slice (some ⟨g, off, none⟩) p.ends.length cap) := ⟨_, rfl⟩
  have hCo : ∀ w', C w' → w'.cell? ⟨c, 2, none⟩ = some (.slice (some ⟨g, off, none⟩) p.ends.length cap) := fun w' h => by rw [hC] at h; exact h
  have hCi : ∀ w', w'.cell? ⟨c, 2, none⟩ = some (.slice (some ⟨g, off, none⟩) p.ends.length cap) → C w' := fun w' h => by rw [hC]; exact h
  have hC0 : C w4.drew := hCi _ b2B
  have cc : ∀ x : { w' // C w' }, x.1.cell? ⟨c, 2, none⟩ = some (.slice (some ⟨g, off, none⟩) p.ends.length cap) := fun y => hCo _ y.2
  haveI : Nonempty { w' // C w' } := ⟨⟨_, hC0⟩⟩
  refine wp_region_fxl C [6] [8] [3] rfl (by kernel_rfl) hC0 (fun M => ?_)
  clear x0 y0
  have hFB := rp_fresh 3 h2B
  have hdB : Upd [] w4 w4.drew := (Upd.refl _ _).drew
  generalize w4.drew = wdB at *
  refine wpFx_pure rfl (fun K hK => ?_); go_simp; refine hK _ ?_; clear hK K
  refine wpFx_pure rfl (fun K hK => ?_); go_simp; refine hK _ ?_; clear hK K
  refine wpFx_pure rfl (fun K hK => ?_); go_simp; refine hK _ ?_; clear hK K
  refine wpFx_load rfl rfl (fun K hK => ?_); go_simp; refine hK _ ?_; clear hK K
  refine wpFx_pure rfl (fun K hK => ?_); go_simp; refine hK _ ?_; clear hK K
  refine wpFx_pure rfl (fun K hK => ?_); go_simp; refine hK _ ?_; clear hK K
  refine wpFx_es rfl rfl (fun K hK => ?_); go_simp
  refine hFB.mono ?_
  rintro e w3B ⟨BB, rfl, hBB, hRB, hU3B⟩
  have h3B := h2B.upd hU3B (by simp)
  have b3B := h3B.blk.cell (i := 2) rfl
  rw [hvB] at b3B
  refine hK _ _ (hCi _ b3B) ?_
  clear hK K
  obtain ⟨d0, d1, d2, d3, d4, d5, hfz⟩ := h3B.cellsAt (PortM.setEnd_get hil) hvB
  have f0 := hfz (off + i * 6)
  have f1 := hfz (off + i * 6 + 1)
  have f2 := hfz (off + i * 6 + 2)
  have f3 := hfz (off + i * 6 + 3)
  have f4 := hfz (off + i * 6 + 4)
  have f5 := hfz (off + i * 6 + 5)
  clear hfz
  refine wpFx_pure rfl (fun K hK => ?_); go_simp; refine hK _ ?_; clear hK K
  refine wpFx_et rfl rfl rfl (fun K hK => ?_); go_simp
  refine hK _ _ ?_; clear hK K
  refine wpFx_nil ?_
  generalize hw4 : (((((w3B.setCell ⟨g, off + i * 6, none⟩ (.int .i64 3)).setCell ⟨g, off + i * 6 + 1, none⟩ (.int .i64 0)).setCell ⟨g, off + i * 6 + 2, none⟩ (.bool false)).setCell ⟨g, off + i * 6 + 3, none⟩ (.bool false)).setCell ⟨g, off + i * 6 + 4, none⟩ (.bool false)).setCell ⟨g, off + i * 6 + 5, none⟩ (.pointer (some ⟨BB, 0, none⟩)) = w4B at *
  obtain ⟨hNB, hNuB, hNwB⟩ := h2B.renew (e := EndM.reset 3) hilB hvB hU3B hBB hRB rfl ⟨by decide, Nat.zero_le _⟩ hw4.symm
  clear hC hCo hCi hC0 cc M d0 d1 d2 d3 d4 d5 f0 f1 f2 f3 f4 f5 b2B b3B hw4 hFB
  rw [PortM.setEnd_set] at hNB
  go_wp2_with fail
  go_ret2
  exact ⟨rfl, ((((RPost.mk' hNB hNuB hNwB).pre hdB).after hNu hNw).pre hd).pre k1⟩


end

end Go.Proofs.Ytnbhgfnjnccakaa
