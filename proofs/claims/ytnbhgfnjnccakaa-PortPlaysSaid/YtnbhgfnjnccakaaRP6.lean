/- The walks of the document's port's Dial, Post, Send (written by gen_rp6.py). -/
import Derived.Test.YtnbhgfnjnccakaaRP5
namespace Go.Proofs.Ytnbhgfnjnccakaa
open Go Go.RowKit
set_option linter.unusedVariables false

section
variable {w w1 : World} {base c : Nat} {L : XLay} {p : PortM}

def postE (bs : List UInt8) : Nat := if bs.length ≤ 512 then 0 else 2
def PortM.posted (p : PortM) (bs : List UInt8) : PortM := if bs.length ≤ 512 then p.told ⟨5, p.ends.length, strB bs, DestM.zero⟩ else p

set_option maxHeartbeats 2000000 in
set_option maxRecDepth 100000 in
theorem rp_dial_ok (d : DestM) (h : RPortAt w base c L p) (hp1 : 1 ≤ d.port) (hp2 : d.port ≤ 65535) (hn : d.name = .empty) (hlen : p.outs.length < 1900000000000) (hcl : p.clients ≤ p.ends.length) (hfree : p.dialIx < p.ends.length) :
    Calls Try.prog 71 #[.pointer (some ⟨c, 0, none⟩), destV d] w fun e w' => e = .returned (.tuple #[.int .i64 (p.dialIx : Nat), .int .i64 0]) ∧ RPost w base c L (p.dialled d) w' := by
  obtain ⟨da, db, dc, dd, name, port⟩ := d
  have hn' : name = ⟨#[]⟩ := hn
  subst hn'
  clear hn
  have hp1 : 1 ≤ port := hp1
  have hp2 : port ≤ 65535 := hp2
  have hX := blk_new' w 49 #[.int .u8 da, .int .u8 db, .int .u8 dc, .int .u8 dd, .string ⟨#[]⟩, .int .i64 port]
  have k1 : Upd [] w (w.alloc (.cells #[.int .u8 da, .int .u8 db, .int .u8 dc, .int .u8 dd, .string ⟨#[]⟩, .int .i64 port] 49)) := (Upd.refl _ _).alloc _
  have h1 := h.upd k1 (by simp)
  have x4 := hX.cell (i := 4) rfl
  have x5 := hX.cell (i := 5) rfl
  have b0 := h1.blk.cell (i := 0) rfl
  have b2 := h1.blk.cell (i := 2) rfl
  obtain ⟨aoe, cap, hvl⟩ := h.veShape
  rw [hvl] at b2
  have hsm := h.small
  have d1 : ¬ port < 1 := by omega
  have d2 : ¬ 65535 < port := by omega
  have hXl : w.heap.size ∉ L.foot := h.fresh (Nat.le_refl _)
  show Calls Try.prog 71 #[.pointer (some ⟨c, 0, none⟩), .agg #[.int .u8 da, .int .u8 db, .int .u8 dc, .int .u8 dd, .string ⟨#[]⟩, .int .i64 port]] w _
  go_enter Try.func71, Try.ntmps71
  go_wp2_with fail
  generalize hXe : w.heap.size = X at *
  generalize w.alloc (.cells #[.int .u8 da, .int .u8 db, .int .u8 dc, .int .u8 dd, .string ⟨#[]⟩, .int .i64 port] 49) = w1 at *
  go_loopw [6] (fun i wr => ∃ k : Nat, p.clients ≤ k ∧ k ≤ p.ends.length ∧ i = .int .i64 k ∧ (∀ j y, p.clients ≤ j → j < k → p.ends[j]? = some y → y.st ≠ 0) ∧ wr = w1) (fun i _ => p.ends.length - (intOf i).toNat)
  case atStart => exact ⟨p.clients, Nat.le_refl _, hcl, rfl, fun j y h1 h2 => by omega, rfl⟩
  case round =>
    obtain ⟨k, hkc, hk, rfl, hall, rfl⟩ := hrel
    by_cases hlt : k < p.ends.length
    · obtain ⟨x, hx⟩ : ∃ x, p.ends[k]? = some x := ⟨p.ends[k], List.getElem?_eq_getElem hlt⟩
      obtain ⟨g, off, cap', hv, hg, _⟩ := h1.cells hx
      rw [hvl] at hv
      cases hv
      have hv := hvl
      obtain ⟨c0, c1, c2, c3, c4, c5, hfz⟩ := h1.cellsAt hx hvl
      have eadd : (⟨g, off, none⟩ : Addr).add (k * 6) = ⟨g, off + k * 6, none⟩ := addr_add _ _ _
      clear hfz
      by_cases hst : x.st = 0
      · have hix := dialIx_eq hkc hx hst hall
        rw [hst] at c0
        clear hall
        go_wp2_with fail
        have h2 := h1.upd ((Upd.refl [] wr).drew) (by simp)
        have b2 := h2.blk.cell (i := 2) rfl
        rw [hv] at b2
        obtain ⟨C, hC⟩ : ∃ C : World → Prop, C = fun w' => w'.cell? ⟨c, 2, none⟩ = some (.slice (some ⟨g, off, none⟩) p.ends.length cap) := ⟨_, rfl⟩
        have hCo : ∀ w', C w' → w'.cell? ⟨c, 2, none⟩ = some (.slice (some ⟨g, off, none⟩) p.ends.length cap) := fun w' h => by rw [hC] at h; exact h
        have hCi : ∀ w', w'.cell? ⟨c, 2, none⟩ = some (.slice (some ⟨g, off, none⟩) p.ends.length cap) → C w' := fun w' h => by rw [hC]; exact h
        have hC0 : C wr.drew := hCi _ b2
        have cc : ∀ x : { w' // C w' }, x.1.cell? ⟨c, 2, none⟩ = some (.slice (some ⟨g, off, none⟩) p.ends.length cap) := fun y => hCo _ y.2
        haveI : Nonempty { w' // C w' } := ⟨⟨_, hC0⟩⟩
        refine wp_region_fxl C [6] [8] [3] rfl (by kernel_rfl) hC0 (fun M => ?_)
        clear c0 c1 c2 c3 c4 c5 b0 b2 x4 x5
        have hF := rp_fresh 2 h2
        have hd : Upd [] wr wr.drew := (Upd.refl _ _).drew
        generalize wr.drew = wd at *
        refine wpFx_pure rfl (fun K hK => ?_); go_simp; refine hK _ ?_; clear hK K
        refine wpFx_pure rfl (fun K hK => ?_); go_simp; refine hK _ ?_; clear hK K
        refine wpFx_pure rfl (fun K hK => ?_); go_simp; refine hK _ ?_; clear hK K
        refine wpFx_load rfl rfl (fun K hK => ?_); go_simp; refine hK _ ?_; clear hK K
        refine wpFx_pure rfl (fun K hK => ?_); go_simp; refine hK _ ?_; clear hK K
        refine wpFx_pure rfl (fun K hK => ?_); go_simp; refine hK _ ?_; clear hK K
        refine wpFx_es rfl rfl (fun K hK => ?_); go_simp
        refine hF.mono ?_
        rintro e w3 ⟨B, rfl, hB, hR, hU3⟩
        have h3 := h2.upd hU3 (by simp)
        have b3 := h3.blk.cell (i := 2) rfl
        rw [hv] at b3
        refine hK _ _ (hCi _ b3) ?_
        clear hK K
        obtain ⟨d0, d1, d2, d3, d4, d5, hfz⟩ := h3.cellsAt hx hv
        have f0 := hfz (off + k * 6)
        have f1 := hfz (off + k * 6 + 1)
        have f2 := hfz (off + k * 6 + 2)
        have f3 := hfz (off + k * 6 + 3)
        have f4 := hfz (off + k * 6 + 4)
        have f5 := hfz (off + k * 6 + 5)
        clear hfz
        refine wpFx_pure rfl (fun K hK => ?_); go_simp; refine hK _ ?_; clear hK K
        refine wpFx_et rfl rfl rfl (fun K hK => ?_); go_simp
        refine hK _ _ ?_; clear hK K
        refine wpFx_nil ?_
        generalize hw4 : (((((w3.setCell ⟨g, off + k * 6, none⟩ (.int .i64 2)).setCell ⟨g, off + k * 6 + 1, none⟩ (.int .i64 0)).setCell ⟨g, off + k * 6 + 2, none⟩ (.bool false)).setCell ⟨g, off + k * 6 + 3, none⟩ (.bool false)).setCell ⟨g, off + k * 6 + 4, none⟩ (.bool false)).setCell ⟨g, off + k * 6 + 5, none⟩ (.pointer (some ⟨B, 0, none⟩)) = w4 at *
        obtain ⟨hN, hNu, hNw⟩ := h2.renew (e := EndM.reset 2) hlt hv hU3 hB hR rfl ⟨by decide, Nat.zero_le _⟩ hw4.symm
        clear hC hCo hCi hC0 cc M d0 d1 d2 d3 d4 d5 f0 f1 f2 f3 f4 f5 b2 b3 hw4 hF
        obtain ⟨ao, co, hvo0⟩ := h.outs.shape
        have hvoD : (L.renew wd.heap.size k B (.slice none 0 0)).vo = .slice ao p.outs.length co := hvo0
        have hX4 : Blk w4 X 49 [.int .u8 da, .int .u8 db, .int .u8 dc, .int .u8 dd, .string ⟨#[]⟩, .int .i64 port] := (hX.upd hd (by simp)).upd hNu hXl
        have hXo : X ∉ (Value.slice ao p.outs.length co).ownBlock.toList := fun hq => hXl (h.to X (by rw [hvo0]; exact mem_ownP hq)).2.2
        have hE : Blk w4.drew X 49 [.int .u8 da, .int .u8 db, .int .u8 dc, .int .u8 dd, .string ⟨#[]⟩, .int .i64 port] := hX4.upd ((Upd.refl [] w4).drew) (by simp)
        go_wp2_with fail
        have hDD := hN.upd ((Upd.refl [] (w4)).drew) (by simp)
        have kdD : Upd [] (w4) (w4).drew := (Upd.refl _ _).drew
        have b4D := hDD.blk.cell (i := 4) rfl
        rw [hvoD] at b4D
        obtain ⟨C, hC⟩ : ∃ C : World → Prop, C = fun w' => w'.cell? ⟨c, 4, none⟩ = some (.slice ao p.outs.length co) ∧ Blk w' X 49 [.int .u8 da, .int .u8 db, .int .u8 dc, .int .u8 dd, .string ⟨#[]⟩, .int .i64 port] := ⟨_, rfl⟩
        have hCo : ∀ w', C w' → w'.cell? ⟨c, 4, none⟩ = some (.slice ao p.outs.length co) ∧ Blk w' X 49 [.int .u8 da, .int .u8 db, .int .u8 dc, .int .u8 dd, .string ⟨#[]⟩, .int .i64 port] := fun w' h => by rw [hC] at h; exact h
        have hCi : ∀ w', w'.cell? ⟨c, 4, none⟩ = some (.slice ao p.outs.length co) → Blk w' X 49 [.int .u8 da, .int .u8 db, .int .u8 dc, .int .u8 dd, .string ⟨#[]⟩, .int .i64 port] → C w' := fun w' h1 h2 => by rw [hC]; exact ⟨h1, h2⟩
        have hC0 : C (w4).drew := hCi _ b4D hE
        have cc : ∀ x : { w' // C w' }, x.1.cell? ⟨c, 4, none⟩ = some (.slice ao p.outs.length co) := fun y => (hCo _ y.2).1
        have q0 : ∀ x : { w' // C w' }, x.1.cell? ⟨X, 0, none⟩ = some (.int .u8 da) := fun y => (hCo _ y.2).2.cell (i := 0) rfl
        have q1 : ∀ x : { w' // C w' }, x.1.cell? ⟨X, 1, none⟩ = some (.int .u8 db) := fun y => (hCo _ y.2).2.cell (i := 1) rfl
        have q2 : ∀ x : { w' // C w' }, x.1.cell? ⟨X, 2, none⟩ = some (.int .u8 dc) := fun y => (hCo _ y.2).2.cell (i := 2) rfl
        have q3 : ∀ x : { w' // C w' }, x.1.cell? ⟨X, 3, none⟩ = some (.int .u8 dd) := fun y => (hCo _ y.2).2.cell (i := 3) rfl
        have q4 : ∀ x : { w' // C w' }, x.1.cell? ⟨X, 4, none⟩ = some (.string ⟨#[]⟩) := fun y => (hCo _ y.2).2.cell (i := 4) rfl
        have q5 : ∀ x : { w' // C w' }, x.1.cell? ⟨X, 5, none⟩ = some (.int .i64 port) := fun y => (hCo _ y.2).2.cell (i := 5) rfl
        haveI : Nonempty { w' // C w' } := ⟨⟨_, hC0⟩⟩
        skip
        refine wp_region_fxl C [8, 9] [12] [4, 6] rfl (by kernel_rfl) hC0 (fun M => ?_)
        generalize (w4).drew = wdD at *
        refine wpFx_pure rfl (fun K hK => ?_); go_simp; refine hK _ ?_; clear hK K
        refine wpFx_pure rfl (fun K hK => ?_); go_simp; refine hK _ ?_; clear hK K
        refine wpFx_pure rfl (fun K hK => ?_); go_simp; refine hK _ ?_; clear hK K
        refine wpFx_pure rfl (fun K hK => ?_); go_simp; refine hK _ ?_; clear hK K
        refine wpFx_load rfl rfl (fun K hK => ?_); go_simp; refine hK _ ?_; clear hK K
        refine wpFx_pure rfl (fun K hK => ?_); go_simp; refine hK _ ?_; clear hK K
        refine wpFx_load rfl rfl (fun K hK => ?_); go_simp; refine hK _ ?_; clear hK K
        refine wpFx_pure rfl (fun K hK => ?_); go_simp; refine hK _ ?_; clear hK K
        refine wpFx_es rfl rfl (fun K hK => ?_); go_simp
        have kxD : Upd [] wdD (wdD.alloc (.cells #[.int .i64 0, .int .i64 1, .int .i64 k, .string ⟨#[]⟩, .int .u8 da, .int .u8 db, .int .u8 dc, .int .u8 dd, .string ⟨#[]⟩, .int .i64 port] 51)) := (Upd.refl _ _).alloc _
        have hND := blk_new' wdD 51 #[.int .i64 0, .int .i64 1, .int .i64 k, .string ⟨#[]⟩, .int .u8 da, .int .u8 db, .int .u8 dc, .int .u8 dd, .string ⟨#[]⟩, .int .i64 port]
        have hAD := hDD.upd kxD (by simp)
        have bAD := hAD.blk.cell (i := 4) rfl
        rw [hvoD] at bAD
        have hEA := (hCo _ hC0).2.upd kxD (by simp)
        refine hK _ _ (hCi _ bAD hEA) ?_
        clear hK K
        have hoAD := hAD.outs
        rw [hvoD] at hoAD
        have hbsAD := hAD.bsz
        refine wpFx_es rfl rfl (fun K hK => ?_)
        with_reducible refine wp_append_gen (.tmp 55) (.tmp 59) 42 42 rfl 51 (outV ⟨0, 0, .empty, DestM.zero⟩) 10 72 Try.underlying42 Try.infoOut rfl base ?a1 (.slice ao p.outs.length co) p.outs.length (outsC p.outs) rfl ?a2 _ 1 (outC ⟨1, k, ⟨#[]⟩, da, db, dc, dd, ⟨#[]⟩, port⟩) rfl ?a3 ?a4 ?a5 ?a6
        case a1 => exact hbsAD
        case a2 => exact hoAD
        case a3 => exact Src.ofSlice _ Try.underlying42 ⟨_, 0, none⟩ _ _ _ rfl (fun j u hj => by rw [addr_add, Nat.zero_add]; exact hND.cell hj) (outC_one _)
        case a4 => unfold maxLen; omega
        case a5 => omega
        case a6 =>
          intro v' w4z hown4 hU4 hblk4 hnil4 hoff4
          have hnb : c ∉ (Value.slice ao p.outs.length co).ownBlock.toList := fun hq => (hAD.to c (by rw [hvoD]; exact mem_ownP hq)).ne hAD.tb (by decide) rfl
          have hb4 := hAD.blk.upd hU4 hnb
          have cb4 := hb4.cell (i := 4) rfl
          have cf4 := hb4.frozen 4
          rw [hvoD] at cb4
          obtain ⟨ao', co', rfl⟩ := hown4.shape
          have hR := hAD.reout (outs' := p.outs ++ [⟨1, k, ⟨#[]⟩, da, db, dc, dd, ⟨#[]⟩, port⟩]) (w1 := w4z) (vo' := .slice ao' (p.outs.length + 1) co') (by rw [hvoD]; exact hU4) (by rw [List.length_append, outsC_append, show outsC [⟨1, k, ⟨#[]⟩, da, db, dc, dd, ⟨#[]⟩, port⟩] = outC ⟨1, k, ⟨#[]⟩, da, db, dc, dd, ⟨#[]⟩, port⟩ by simp [outsC]]; exact hown4) (fun q hq => by rw [hvoD]; exact hblk4 q hq) rfl
          have hE4 := hEA.upd hU4 hXo
          refine hK _ _ (hCi _ cb4 hE4) ?_
          clear hK K
          clear hown4 hU4 hblk4 hnil4 hoff4 hnb hoAD hND
          go_simp
          refine wpFx_pure rfl (fun K hK => ?_); go_simp; refine hK _ ?_; clear hK K
          refine wpFx_pure rfl (fun K hK => ?_); go_simp; refine hK _ ?_; clear hK K
          refine wpFx_et rfl rfl rfl (fun K hK => ?_); go_simp
          refine hK _ _ ?_; clear hK K
          refine wpFx_nil ?_
          clear hC0 hCi hCo hC cc hE4 hEA
          go_wp2_with fail
          go_ret2
          refine ⟨by rw [hix]; rfl, ?_⟩
          have hfin := (((((RPost.mk' hR.1 hR.2.1 hR.2.2).pre kxD).pre kdD).after hNu hNw).pre hd).pre k1
          unfold PortM.dialled
          rw [hix]
          exact hfin
      · have hst' : ¬ (x.st : Int) = 0 := by omega
        have hb0 : ((x.st : Int) == 0) = false := by simp; omega
        go_wp2_with fail
        go_roundw
        case rel => exact ⟨k + 1, by omega, hlt, by go_num, fun j y h1 h2 hy => by
          by_cases hjk : j = k
          · subst hjk; rw [hx] at hy; cases hy; exact hst
          · exact hall j y h1 (by omega) hy, by first | rfl | trivial⟩
        case measure => simp [intOf]; omega
    · exfalso
      have hkl : k = p.ends.length := by omega
      unfold PortM.dialIx at hfree
      have hl : (p.ends.drop p.clients).findIdx (fun e => e.st == 0) < (p.ends.drop p.clients).length := by rw [List.length_drop]; omega
      have := List.findIdx_getElem (w := hl)
      rw [List.getElem_drop] at this
      have h2 := hall (p.clients + (p.ends.drop p.clients).findIdx (fun e => e.st == 0)) _ (by omega) (by omega) (List.getElem?_eq_getElem (by omega))
      simp at this
      exact h2 this

set_option maxHeartbeats 2000000 in
set_option maxRecDepth 100000 in
theorem rp_post {v : Value} {bs : List UInt8} (h : RPortAt w base c L p) (hrd : Rd w v bs) (hvn : ∀ q, v.ownBlock = some q → q ∉ L.foot) (hlen : p.outs.length < 1900000000000) :
    Calls Try.prog 73 #[.pointer (some ⟨c, 0, none⟩), v] w fun e w' => e = .returned (.int .i64 (postE bs : Nat)) ∧ RPost w base c L (p.posted bs) w' := by
  obtain ⟨av, cv, rfl⟩ : ∃ av cv, v = .slice av bs.length cv := by obtain ⟨av, cv, hh, _⟩ := hrd; exact ⟨av, cv, hh⟩
  by_cases hb : bs.length ≤ 512
  · have e1 : postE bs = 0 := if_pos hb
    have e2 : p.posted bs = p.told ⟨5, p.ends.length, strB bs, DestM.zero⟩ := if_pos hb
    rw [e1, e2]
    obtain ⟨aoe, cap, hve⟩ := h.veShape
    obtain ⟨ao, co, hvo⟩ := h.outs.shape
    have hb' : ¬ 512 < bs.length := by omega
    go_enter Try.func73, Try.ntmps73
    go_wp2_with fail
    have b2d := (h.upd ((Upd.refl [] w).drew) (by simp)).blk.cell (i := 2) rfl
    rw [hve] at b2d
    have hE : (w.drew).cell? ⟨c, 2, none⟩ = some (.slice aoe p.ends.length cap) ∧ Rd w.drew (.slice av bs.length cv) bs := ⟨b2d, hrd.upd ((Upd.refl [] w).drew) (by simp)⟩
    have hvoP := hvo
    have hDP := h.upd ((Upd.refl [] (w)).drew) (by simp)
    have kdP : Upd [] (w) (w).drew := (Upd.refl _ _).drew
    have b4P := hDP.blk.cell (i := 4) rfl
    rw [hvoP] at b4P
    obtain ⟨C, hC⟩ : ∃ C : World → Prop, C = fun w' => w'.cell? ⟨c, 4, none⟩ = some (.slice ao p.outs.length co) ∧ (w'.cell? ⟨c, 2, none⟩ = some (.slice aoe p.ends.length cap) ∧ Rd w' (.slice av bs.length cv) bs) := ⟨_, rfl⟩
    have hCo : ∀ w', C w' → w'.cell? ⟨c, 4, none⟩ = some (.slice ao p.outs.length co) ∧ (w'.cell? ⟨c, 2, none⟩ = some (.slice aoe p.ends.length cap) ∧ Rd w' (.slice av bs.length cv) bs) := fun w' h => by rw [hC] at h; exact h
    have hCi : ∀ w', w'.cell? ⟨c, 4, none⟩ = some (.slice ao p.outs.length co) → (w'.cell? ⟨c, 2, none⟩ = some (.slice aoe p.ends.length cap) ∧ Rd w' (.slice av bs.length cv) bs) → C w' := fun w' h1 h2 => by rw [hC]; exact ⟨h1, h2⟩
    have hC0 : C (w).drew := hCi _ b4P hE
    have cc : ∀ x : { w' // C w' }, x.1.cell? ⟨c, 4, none⟩ = some (.slice ao p.outs.length co) := fun y => (hCo _ y.2).1
    have q2 : ∀ x : { w' // C w' }, x.1.cell? ⟨c, 2, none⟩ = some (.slice aoe p.ends.length cap) := fun y => (hCo _ y.2).2.1
    have qc : ∀ x : { w' // C w' }, (convert 35 9 (.slice av bs.length cv)).run Try.prog x.1 = .ok (.string (strB bs)) x.1 := fun y => run_string_of (P := Try.prog) (hCo _ y.2).2.2 35 5 9 Try.underlying35 Try.underlying5 Try.underlying9
    haveI : Nonempty { w' // C w' } := ⟨⟨_, hC0⟩⟩
    skip
    refine wp_region_fxl C [13, 14] [17] [4, 8, 11] rfl (by kernel_rfl) hC0 (fun M => ?_)
    generalize (w).drew = wdP at *
    refine wpFx_pure rfl (fun K hK => ?_); go_simp; refine hK _ ?_; clear hK K
    refine wpFx_pure rfl (fun K hK => ?_); go_simp; refine hK _ ?_; clear hK K
    refine wpFx_pure rfl (fun K hK => ?_); go_simp; refine hK _ ?_; clear hK K
    refine wpFx_pure rfl (fun K hK => ?_); go_simp; refine hK _ ?_; clear hK K
    refine wpFx_load rfl rfl (fun K hK => ?_); go_simp; refine hK _ ?_; clear hK K
    refine wpFx_pure rfl (fun K hK => ?_); go_simp; refine hK _ ?_; clear hK K
    refine wpFx_pure rfl (fun K hK => ?_); go_simp; refine hK _ ?_; clear hK K
    refine wpFx_pure rfl (fun K hK => ?_); go_simp; refine hK _ ?_; clear hK K
    refine wpFx_load rfl rfl (fun K hK => ?_); go_simp; refine hK _ ?_; clear hK K
    refine wpFx_pure rfl (fun K hK => ?_); go_simp; refine hK _ ?_; clear hK K
    refine wpFx_pure rfl (fun K hK => ?_); go_simp; refine hK _ ?_; clear hK K
    refine wpFx_load rfl rfl (fun K hK => ?_); go_simp; refine hK _ ?_; clear hK K
    refine wpFx_pure rfl (fun K hK => ?_); go_simp; refine hK _ ?_; clear hK K
    refine wpFx_es rfl rfl (fun K hK => ?_); go_simp
    have kxP : Upd [] wdP (wdP.alloc (.cells #[.int .i64 0, .int .i64 5, .int .i64 p.ends.length, .string (strB bs), .int .u8 0, .int .u8 0, .int .u8 0, .int .u8 0, .string ⟨#[]⟩, .int .i64 0] 51)) := (Upd.refl _ _).alloc _
    have hNP := blk_new' wdP 51 #[.int .i64 0, .int .i64 5, .int .i64 p.ends.length, .string (strB bs), .int .u8 0, .int .u8 0, .int .u8 0, .int .u8 0, .string ⟨#[]⟩, .int .i64 0]
    have hAP := hDP.upd kxP (by simp)
    have bAP := hAP.blk.cell (i := 4) rfl
    rw [hvoP] at bAP
    have hEA := (show _ ∧ _ from ⟨by have := hAP.blk.cell (i := 2) rfl; rw [hve] at this; exact this, (hCo _ hC0).2.2.upd kxP (by simp)⟩)
    refine hK _ _ (hCi _ bAP hEA) ?_
    clear hK K
    have hoAP := hAP.outs
    rw [hvoP] at hoAP
    have hbsAP := hAP.bsz
    refine wpFx_es rfl rfl (fun K hK => ?_)
    with_reducible refine wp_append_gen (.tmp 12) (.tmp 21) 42 42 rfl 51 (outV ⟨0, 0, .empty, DestM.zero⟩) 10 72 Try.underlying42 Try.infoOut rfl base ?a1 (.slice ao p.outs.length co) p.outs.length (outsC p.outs) rfl ?a2 _ 1 (outC ⟨5, p.ends.length, strB bs, DestM.zero⟩) rfl ?a3 ?a4 ?a5 ?a6
    case a1 => exact hbsAP
    case a2 => exact hoAP
    case a3 => exact Src.ofSlice _ Try.underlying42 ⟨_, 0, none⟩ _ _ _ rfl (fun j u hj => by rw [addr_add, Nat.zero_add]; exact hNP.cell hj) (outC_one _)
    case a4 => unfold maxLen; omega
    case a5 => omega
    case a6 =>
      intro v' w4z hown4 hU4 hblk4 hnil4 hoff4
      have hnb : c ∉ (Value.slice ao p.outs.length co).ownBlock.toList := fun hq => (hAP.to c (by rw [hvoP]; exact mem_ownP hq)).ne hAP.tb (by decide) rfl
      have hb4 := hAP.blk.upd hU4 hnb
      have cb4 := hb4.cell (i := 4) rfl
      have cf4 := hb4.frozen 4
      rw [hvoP] at cb4
      obtain ⟨ao', co', rfl⟩ := hown4.shape
      have hR := hAP.reout (outs' := p.outs ++ [⟨5, p.ends.length, strB bs, DestM.zero⟩]) (w1 := w4z) (vo' := .slice ao' (p.outs.length + 1) co') (by rw [hvoP]; exact hU4) (by rw [List.length_append, outsC_append, show outsC [⟨5, p.ends.length, strB bs, DestM.zero⟩] = outC ⟨5, p.ends.length, strB bs, DestM.zero⟩ by simp [outsC]]; exact hown4) (fun q hq => by rw [hvoP]; exact hblk4 q hq) rfl
      have hE4 := (show _ ∧ _ from ⟨by have := hb4.cell (i := 2) rfl; rw [hve] at this; exact this, hEA.2.upd hU4 (fun q hq hq' => hvn q hq (h.to q (by rw [hvoP]; exact mem_ownP hq')).2.2)⟩)
      refine hK _ _ (hCi _ cb4 hE4) ?_
      clear hK K
      clear hown4 hU4 hblk4 hnil4 hoff4 hnb hoAP hNP
      go_simp
      refine wpFx_pure rfl (fun K hK => ?_); go_simp; refine hK _ ?_; clear hK K
      refine wpFx_pure rfl (fun K hK => ?_); go_simp; refine hK _ ?_; clear hK K
      refine wpFx_et rfl rfl rfl (fun K hK => ?_); go_simp
      refine hK _ _ ?_; clear hK K
      refine wpFx_nil ?_
      clear hC0 hCi hCo hC cc hE4 hEA
      go_wp2_with fail
      go_ret
      exact ⟨rfl, ((RPost.mk' hR.1 hR.2.1 hR.2.2).pre kxP).pre kdP⟩
  · have e1 : postE bs = 2 := if_neg hb
    have e2 : p.posted bs = p := if_neg hb
    have hb' : 512 < bs.length := by omega
    rw [e1, e2]
    go_enter Try.func73, Try.ntmps73
    go_wp2_with fail
    go_ret
    exact ⟨rfl, RPost.refl h⟩

set_option maxHeartbeats 2000000 in
set_option maxRecDepth 100000 in
theorem rp_send (k : Int) {v : Value} {bs : List UInt8} (h : RPortAt w base c L p) (hrd : Rd w v bs) (hvn : ∀ q, v.ownBlock = some q → q ∉ L.foot) (hlen : p.outs.length < 1900000000000) :
    Calls Try.prog 69 #[.pointer (some ⟨c, 0, none⟩), .int .i64 k, v] w fun e w' => e = .returned (.int .i64 (p.sendN k bs : Nat)) ∧ RPost w base c L (p.sent k bs) w' := by
  have hr := rp_room k h
  obtain ⟨nb, hnb⟩ : ∃ nb, nb = bs.length := ⟨_, rfl⟩
  obtain ⟨rm, hrm⟩ : ∃ rm, rm = p.roomOf k := ⟨_, rfl⟩
  obtain ⟨av, cv, rfl⟩ : ∃ av cv, v = .slice av nb cv := by obtain ⟨av, cv, hh, _⟩ := hrd; exact ⟨av, cv, by rw [hnb]; exact hh⟩
  rw [← hrm] at hr
  have hN0 : p.sendN k bs = min rm nb := by rw [hrm, hnb]; rfl
  by_cases hle : nb < rm
  · have hN : p.sendN k bs = nb := by omega
    by_cases hz0 : nb = 0
    · skip
      have h0 : p.sendN k bs = 0 := by rw [hN]; exact hz0
      have hT : p.sent k bs = p := by unfold PortM.sent; split; rw [if_pos h0]; rfl
      rw [h0, hT]
      subst hz0
      clear h0 hT hN hN0 hrm hnb
      go_enter Try.func69, Try.ntmps69
      go_wp2_with fail
      refine hr.mono ?_
      rintro e w' ⟨rfl, rfl⟩
      go_wp2_with fail
      go_ret
      exact ⟨rfl, RPost.refl h⟩
    · skip
      have h0 : ¬ p.sendN k bs = 0 := by rw [hN]; exact hz0
      have hroom : 0 < rm := by omega
      rcases p.at?_cases k with ⟨hn, _⟩ | ⟨i, x, rfl, hx, hax, hil⟩
      · unfold PortM.roomOf at hrm; rw [hn] at hrm; simp only at hrm; omega
      · have hro : p.roomOf i = x.roomN := by unfold PortM.roomOf; rw [hax]
        have hst : x.st = 1 ∧ x.ours = false := by
          rw [hro] at hrm
          unfold EndM.roomN at hrm
          by_cases hh : x.st = 1 ∧ x.ours = false
          · exact hh
          · rw [if_neg hh] at hrm; omega
        have hxr : rm = x.room := by rw [hrm, hro]; unfold EndM.roomN; rw [if_pos hst]
        have hT : p.sent i bs = (p.setEnd i { x with room := x.room - nb }).told ⟨2, i, strB (bs.take nb), DestM.zero⟩ := by
          unfold PortM.sent; rw [hax]; simp only []; rw [if_neg h0, hN, Int.toNat_natCast]; rfl
        obtain ⟨g, off, cap, hv, hg, _⟩ := h.cells hx
        obtain ⟨c0, c1, c2, c3, c4, c5, hfz⟩ := h.cellsAt hx hv
        have f1 := hfz (off + i * 6 + 1)
        have hfx := h.fine x (List.mem_of_getElem? hx)
        have hsm := h.small
        have eadd : (⟨g, off, none⟩ : Addr).add (i * 6) = ⟨g, off + i * 6, none⟩ := addr_add _ _ _
        have hr2 := hfx.2
        have b2 := h.blk.cell (i := 2) rfl
        rw [hv] at b2
        have hn1 : 0 < nb ∧ nb ≤ bs.length ∧ nb ≤ x.room := by omega
        have ew : IntKind.i64.wrap ((x.room : Int) - (nb : Nat)) = ((x.room - nb : Nat) : Int) := by rw [IntWalk.i64_in _ (by omega)]; omega
        have hW := h.write (j := 1) (e' := { x with room := x.room - nb }) (u := .int .i64 ((x.room - nb : Nat) : Int)) hx hv (by decide) rfl rfl ⟨hfx.1, by show x.room - _ ≤ _; omega⟩
        have hUs : Upd L.foot w (w.setCell ⟨g, off + i * 6 + 1, none⟩ (.int .i64 ((x.room - nb : Nat) : Int))) := (Upd.refl _ _).setCell (a := ⟨g, off + i * 6 + 1, none⟩) (Or.inl (h.tl g (by rw [hv]; rfl)).2.2) _
        rw [hnb] at hrd hvn
        have hrd2 := (hrd.take hn1.2.1).upd hUs (fun q hq => hvn q (by rw [← hq]; cases av <;> rfl))
        obtain ⟨ao, co, hvoS⟩ := h.outs.shape
        rw [hN, hT]
        obtain ⟨ao', cap', hvv, hlc, hcm, hnil, hsome⟩ := hrd
        cases hvv
        obtain ⟨ad, rfl⟩ : ∃ ad, av = some ad := by
          cases av with
          | none => have := hnil rfl; omega
          | some ad => exact ⟨ad, rfl⟩
        have hsp := (hsome ad rfl).1 (by intro e; rw [e] at hn1; simp at hn1; omega)
        obtain ⟨gb, ob, sp⟩ := ad
        simp only at hsp
        subst hsp
        have ea0 : (⟨gb, ob, none⟩ : Addr).add 0 = ⟨gb, ob, none⟩ := by rw [addr_add]; rfl
        have hvn' : ∀ q, (Value.slice (some ⟨gb, ob, none⟩) nb cv).ownBlock = some q → q ∉ L.foot := fun q hq => hvn q (by rw [← hq]; rfl)
        have hcv0 : ¬ cv = 0 := by omega
        have hlc1 : nb ≤ cv := by omega
        clear hfz hN hT h0 c0 c2 c3 c4 c5 hsome hnil hN0 hrm hro hvn hxr hnb hlc
        go_enter Try.func69, Try.ntmps69
        go_wp2_with fail
        refine hr.mono ?_
        rintro e w' ⟨rfl, rfl⟩
        go_wp2_with fail
        have hE : Rd ((w.setCell ⟨g, off + i * 6 + 1, none⟩ (.int .i64 ((x.room - nb : Nat) : Int))).drew) (.slice (some ⟨gb, ob, none⟩) nb cv) (bs.take nb) := hrd2.upd ((Upd.refl [] _).drew) (by simp)
        have hDS := hW.upd ((Upd.refl [] (w.setCell ⟨g, off + i * 6 + 1, none⟩ (.int .i64 ((x.room - nb : Nat) : Int)))).drew) (by simp)
        have kdS : Upd [] (w.setCell ⟨g, off + i * 6 + 1, none⟩ (.int .i64 ((x.room - nb : Nat) : Int))) (w.setCell ⟨g, off + i * 6 + 1, none⟩ (.int .i64 ((x.room - nb : Nat) : Int))).drew := (Upd.refl _ _).drew
        have b4S := hDS.blk.cell (i := 4) rfl
        rw [hvoS] at b4S
        obtain ⟨C, hC⟩ : ∃ C : World → Prop, C = fun w' => w'.cell? ⟨c, 4, none⟩ = some (.slice ao p.outs.length co) ∧ Rd w' (.slice (some ⟨gb, ob, none⟩) nb cv) (bs.take nb) := ⟨_, rfl⟩
        have hCo : ∀ w', C w' → w'.cell? ⟨c, 4, none⟩ = some (.slice ao p.outs.length co) ∧ Rd w' (.slice (some ⟨gb, ob, none⟩) nb cv) (bs.take nb) := fun w' h => by rw [hC] at h; exact h
        have hCi : ∀ w', w'.cell? ⟨c, 4, none⟩ = some (.slice ao p.outs.length co) → Rd w' (.slice (some ⟨gb, ob, none⟩) nb cv) (bs.take nb) → C w' := fun w' h1 h2 => by rw [hC]; exact ⟨h1, h2⟩
        have hC0 : C (w.setCell ⟨g, off + i * 6 + 1, none⟩ (.int .i64 ((x.room - nb : Nat) : Int))).drew := hCi _ b4S hE
        have cc : ∀ x : { w' // C w' }, x.1.cell? ⟨c, 4, none⟩ = some (.slice ao p.outs.length co) := fun y => (hCo _ y.2).1
        have qc : ∀ x : { w' // C w' }, (convert 35 9 (.slice (some ⟨gb, ob, none⟩) nb cv)).run Try.prog x.1 = .ok (.string (strB (bs.take nb))) x.1 := fun y => run_string_of (P := Try.prog) (hCo _ y.2).2 35 5 9 Try.underlying35 Try.underlying5 Try.underlying9
        haveI : Nonempty { w' // C w' } := ⟨⟨_, hC0⟩⟩
        skip
        refine wp_region_fxl C [11, 12] [15] [4, 9] rfl (by kernel_rfl) hC0 (fun M => ?_)
        generalize (w.setCell ⟨g, off + i * 6 + 1, none⟩ (.int .i64 ((x.room - nb : Nat) : Int))).drew = wdS at *
        refine wpFx_pure rfl (fun K hK => ?_); go_simp; refine hK _ ?_; clear hK K
        refine wpFx_pure rfl (fun K hK => ?_); go_simp; refine hK _ ?_; clear hK K
        refine wpFx_pure rfl (fun K hK => ?_); go_simp; refine hK _ ?_; clear hK K
        refine wpFx_pure rfl (fun K hK => ?_); go_simp; refine hK _ ?_; clear hK K
        refine wpFx_load rfl rfl (fun K hK => ?_); go_simp; refine hK _ ?_; clear hK K
        refine wpFx_pure rfl (fun K hK => ?_); go_simp; refine hK _ ?_; clear hK K
        refine wpFx_pure rfl (fun K hK => ?_); go_simp; refine hK _ ?_; clear hK K
        refine wpFx_pure rfl (fun K hK => ?_); go_simp; refine hK _ ?_; clear hK K
        refine wpFx_pure rfl (fun K hK => ?_); go_simp; refine hK _ ?_; clear hK K
        refine wpFx_load rfl rfl (fun K hK => ?_); go_simp; refine hK _ ?_; clear hK K
        refine wpFx_pure rfl (fun K hK => ?_); go_simp; refine hK _ ?_; clear hK K
        refine wpFx_es rfl rfl (fun K hK => ?_); go_simp
        have kxS : Upd [] wdS (wdS.alloc (.cells #[.int .i64 0, .int .i64 2, .int .i64 i, .string (strB (bs.take nb)), .int .u8 0, .int .u8 0, .int .u8 0, .int .u8 0, .string ⟨#[]⟩, .int .i64 0] 51)) := (Upd.refl _ _).alloc _
        have hNS := blk_new' wdS 51 #[.int .i64 0, .int .i64 2, .int .i64 i, .string (strB (bs.take nb)), .int .u8 0, .int .u8 0, .int .u8 0, .int .u8 0, .string ⟨#[]⟩, .int .i64 0]
        have hAS := hDS.upd kxS (by simp)
        have bAS := hAS.blk.cell (i := 4) rfl
        rw [hvoS] at bAS
        have hEA := (hCo _ hC0).2.upd kxS (by simp)
        refine hK _ _ (hCi _ bAS hEA) ?_
        clear hK K
        have hoAS := hAS.outs
        rw [hvoS] at hoAS
        have hbsAS := hAS.bsz
        refine wpFx_es rfl rfl (fun K hK => ?_)
        with_reducible refine wp_append_gen (.tmp 32) (.tmp 39) 42 42 rfl 51 (outV ⟨0, 0, .empty, DestM.zero⟩) 10 72 Try.underlying42 Try.infoOut rfl base ?a1 (.slice ao p.outs.length co) p.outs.length (outsC p.outs) rfl ?a2 _ 1 (outC ⟨2, i, strB (bs.take nb), DestM.zero⟩) rfl ?a3 ?a4 ?a5 ?a6
        case a1 => exact hbsAS
        case a2 => exact hoAS
        case a3 => exact Src.ofSlice _ Try.underlying42 ⟨_, 0, none⟩ _ _ _ rfl (fun j u hj => by rw [addr_add, Nat.zero_add]; exact hNS.cell hj) (outC_one _)
        case a4 => unfold maxLen; omega
        case a5 => omega
        case a6 =>
          intro v' w4z hown4 hU4 hblk4 hnil4 hoff4
          have hnb : c ∉ (Value.slice ao p.outs.length co).ownBlock.toList := fun hq => (hAS.to c (by rw [hvoS]; exact mem_ownP hq)).ne hAS.tb (by decide) rfl
          have hb4 := hAS.blk.upd hU4 hnb
          have cb4 := hb4.cell (i := 4) rfl
          have cf4 := hb4.frozen 4
          rw [hvoS] at cb4
          obtain ⟨ao', co', rfl⟩ := hown4.shape
          have hR := hAS.reout (outs' := p.outs ++ [⟨2, i, strB (bs.take nb), DestM.zero⟩]) (w1 := w4z) (vo' := .slice ao' (p.outs.length + 1) co') (by rw [hvoS]; exact hU4) (by rw [List.length_append, outsC_append, show outsC [⟨2, i, strB (bs.take nb), DestM.zero⟩] = outC ⟨2, i, strB (bs.take nb), DestM.zero⟩ by simp [outsC]]; exact hown4) (fun q hq => by rw [hvoS]; exact hblk4 q hq) rfl
          have hE4 := hEA.upd hU4 (fun q hq hq' => hvn' q hq (h.to q (by rw [hvoS]; exact mem_ownP hq')).2.2)
          refine hK _ _ (hCi _ cb4 hE4) ?_
          clear hK K
          clear hown4 hU4 hblk4 hnil4 hoff4 hnb hoAS hNS
          go_simp
          refine wpFx_pure rfl (fun K hK => ?_); go_simp; refine hK _ ?_; clear hK K
          refine wpFx_pure rfl (fun K hK => ?_); go_simp; refine hK _ ?_; clear hK K
          refine wpFx_et rfl rfl rfl (fun K hK => ?_); go_simp
          refine hK _ _ ?_; clear hK K
          refine wpFx_nil ?_
          clear hC0 hCi hCo hC cc hE4 hEA
          go_wp2_with fail
          go_ret
          exact ⟨rfl, (((RPost.mk' hR.1 hR.2.1 hR.2.2).pre kxS).pre kdS).after hUs (Within.refl _ _)⟩
  · have hN : p.sendN k bs = rm := by omega
    by_cases hz0 : rm = 0
    · skip
      have h0 : p.sendN k bs = 0 := by rw [hN]; exact hz0
      have hT : p.sent k bs = p := by unfold PortM.sent; split; rw [if_pos h0]; rfl
      rw [h0, hT]
      subst hz0
      clear h0 hT hN hN0 hrm hnb
      go_enter Try.func69, Try.ntmps69
      go_wp2_with fail
      refine hr.mono ?_
      rintro e w' ⟨rfl, rfl⟩
      go_wp2_with fail
      go_ret
      exact ⟨rfl, RPost.refl h⟩
    · skip
      have h0 : ¬ p.sendN k bs = 0 := by rw [hN]; exact hz0
      have hroom : 0 < rm := by omega
      rcases p.at?_cases k with ⟨hn, _⟩ | ⟨i, x, rfl, hx, hax, hil⟩
      · unfold PortM.roomOf at hrm; rw [hn] at hrm; simp only at hrm; omega
      · have hro : p.roomOf i = x.roomN := by unfold PortM.roomOf; rw [hax]
        have hst : x.st = 1 ∧ x.ours = false := by
          rw [hro] at hrm
          unfold EndM.roomN at hrm
          by_cases hh : x.st = 1 ∧ x.ours = false
          · exact hh
          · rw [if_neg hh] at hrm; omega
        have hxr : rm = x.room := by rw [hrm, hro]; unfold EndM.roomN; rw [if_pos hst]
        have hT : p.sent i bs = (p.setEnd i { x with room := x.room - rm }).told ⟨2, i, strB (bs.take rm), DestM.zero⟩ := by
          unfold PortM.sent; rw [hax]; simp only []; rw [if_neg h0, hN, Int.toNat_natCast]; rfl
        obtain ⟨g, off, cap, hv, hg, _⟩ := h.cells hx
        obtain ⟨c0, c1, c2, c3, c4, c5, hfz⟩ := h.cellsAt hx hv
        have f1 := hfz (off + i * 6 + 1)
        have hfx := h.fine x (List.mem_of_getElem? hx)
        have hsm := h.small
        have eadd : (⟨g, off, none⟩ : Addr).add (i * 6) = ⟨g, off + i * 6, none⟩ := addr_add _ _ _
        have hr2 := hfx.2
        have b2 := h.blk.cell (i := 2) rfl
        rw [hv] at b2
        have hn1 : 0 < rm ∧ rm ≤ bs.length ∧ rm ≤ x.room := by omega
        have ew : IntKind.i64.wrap ((x.room : Int) - (rm : Nat)) = ((x.room - rm : Nat) : Int) := by rw [IntWalk.i64_in _ (by omega)]; omega
        have hW := h.write (j := 1) (e' := { x with room := x.room - rm }) (u := .int .i64 ((x.room - rm : Nat) : Int)) hx hv (by decide) rfl rfl ⟨hfx.1, by show x.room - _ ≤ _; omega⟩
        have hUs : Upd L.foot w (w.setCell ⟨g, off + i * 6 + 1, none⟩ (.int .i64 ((x.room - rm : Nat) : Int))) := (Upd.refl _ _).setCell (a := ⟨g, off + i * 6 + 1, none⟩) (Or.inl (h.tl g (by rw [hv]; rfl)).2.2) _
        rw [hnb] at hrd hvn
        have hrd2 := (hrd.take hn1.2.1).upd hUs (fun q hq => hvn q (by rw [← hq]; cases av <;> rfl))
        obtain ⟨ao, co, hvoS⟩ := h.outs.shape
        rw [hN, hT]
        obtain ⟨ao', cap', hvv, hlc, hcm, hnil, hsome⟩ := hrd
        cases hvv
        obtain ⟨ad, rfl⟩ : ∃ ad, av = some ad := by
          cases av with
          | none => have := hnil rfl; omega
          | some ad => exact ⟨ad, rfl⟩
        have hsp := (hsome ad rfl).1 (by intro e; rw [e] at hn1; simp at hn1; omega)
        obtain ⟨gb, ob, sp⟩ := ad
        simp only at hsp
        subst hsp
        have ea0 : (⟨gb, ob, none⟩ : Addr).add 0 = ⟨gb, ob, none⟩ := by rw [addr_add]; rfl
        have hvn' : ∀ q, (Value.slice (some ⟨gb, ob, none⟩) rm cv).ownBlock = some q → q ∉ L.foot := fun q hq => hvn q (by rw [← hq]; rfl)
        have hcv0 : ¬ cv = 0 := by omega
        have hlc1 : rm ≤ cv := by omega
        clear hfz hN hT h0 c0 c2 c3 c4 c5 hsome hnil hN0 hrm hro hvn hxr hnb hlc
        go_enter Try.func69, Try.ntmps69
        go_wp2_with fail
        refine hr.mono ?_
        rintro e w' ⟨rfl, rfl⟩
        go_wp2_with fail
        have hE : Rd ((w.setCell ⟨g, off + i * 6 + 1, none⟩ (.int .i64 ((x.room - rm : Nat) : Int))).drew) (.slice (some ⟨gb, ob, none⟩) rm cv) (bs.take rm) := hrd2.upd ((Upd.refl [] _).drew) (by simp)
        have hDS := hW.upd ((Upd.refl [] (w.setCell ⟨g, off + i * 6 + 1, none⟩ (.int .i64 ((x.room - rm : Nat) : Int)))).drew) (by simp)
        have kdS : Upd [] (w.setCell ⟨g, off + i * 6 + 1, none⟩ (.int .i64 ((x.room - rm : Nat) : Int))) (w.setCell ⟨g, off + i * 6 + 1, none⟩ (.int .i64 ((x.room - rm : Nat) : Int))).drew := (Upd.refl _ _).drew
        have b4S := hDS.blk.cell (i := 4) rfl
        rw [hvoS] at b4S
        obtain ⟨C, hC⟩ : ∃ C : World → Prop, C = fun w' => w'.cell? ⟨c, 4, none⟩ = some (.slice ao p.outs.length co) ∧ Rd w' (.slice (some ⟨gb, ob, none⟩) rm cv) (bs.take rm) := ⟨_, rfl⟩
        have hCo : ∀ w', C w' → w'.cell? ⟨c, 4, none⟩ = some (.slice ao p.outs.length co) ∧ Rd w' (.slice (some ⟨gb, ob, none⟩) rm cv) (bs.take rm) := fun w' h => by rw [hC] at h; exact h
        have hCi : ∀ w', w'.cell? ⟨c, 4, none⟩ = some (.slice ao p.outs.length co) → Rd w' (.slice (some ⟨gb, ob, none⟩) rm cv) (bs.take rm) → C w' := fun w' h1 h2 => by rw [hC]; exact ⟨h1, h2⟩
        have hC0 : C (w.setCell ⟨g, off + i * 6 + 1, none⟩ (.int .i64 ((x.room - rm : Nat) : Int))).drew := hCi _ b4S hE
        have cc : ∀ x : { w' // C w' }, x.1.cell? ⟨c, 4, none⟩ = some (.slice ao p.outs.length co) := fun y => (hCo _ y.2).1
        have qc : ∀ x : { w' // C w' }, (convert 35 9 (.slice (some ⟨gb, ob, none⟩) rm cv)).run Try.prog x.1 = .ok (.string (strB (bs.take rm))) x.1 := fun y => run_string_of (P := Try.prog) (hCo _ y.2).2 35 5 9 Try.underlying35 Try.underlying5 Try.underlying9
        haveI : Nonempty { w' // C w' } := ⟨⟨_, hC0⟩⟩
        skip
        refine wp_region_fxl C [11, 12] [15] [4, 9] rfl (by kernel_rfl) hC0 (fun M => ?_)
        generalize (w.setCell ⟨g, off + i * 6 + 1, none⟩ (.int .i64 ((x.room - rm : Nat) : Int))).drew = wdS at *
        refine wpFx_pure rfl (fun K hK => ?_); go_simp; refine hK _ ?_; clear hK K
        refine wpFx_pure rfl (fun K hK => ?_); go_simp; refine hK _ ?_; clear hK K
        refine wpFx_pure rfl (fun K hK => ?_); go_simp; refine hK _ ?_; clear hK K
        refine wpFx_pure rfl (fun K hK => ?_); go_simp; refine hK _ ?_; clear hK K
        refine wpFx_load rfl rfl (fun K hK => ?_); go_simp; refine hK _ ?_; clear hK K
        refine wpFx_pure rfl (fun K hK => ?_); go_simp; refine hK _ ?_; clear hK K
        refine wpFx_pure rfl (fun K hK => ?_); go_simp; refine hK _ ?_; clear hK K
        refine wpFx_pure rfl (fun K hK => ?_); go_simp; refine hK _ ?_; clear hK K
        refine wpFx_pure rfl (fun K hK => ?_); go_simp; refine hK _ ?_; clear hK K
        refine wpFx_load rfl rfl (fun K hK => ?_); go_simp; refine hK _ ?_; clear hK K
        refine wpFx_pure rfl (fun K hK => ?_); go_simp; refine hK _ ?_; clear hK K
        refine wpFx_es rfl rfl (fun K hK => ?_); go_simp
        have kxS : Upd [] wdS (wdS.alloc (.cells #[.int .i64 0, .int .i64 2, .int .i64 i, .string (strB (bs.take rm)), .int .u8 0, .int .u8 0, .int .u8 0, .int .u8 0, .string ⟨#[]⟩, .int .i64 0] 51)) := (Upd.refl _ _).alloc _
        have hNS := blk_new' wdS 51 #[.int .i64 0, .int .i64 2, .int .i64 i, .string (strB (bs.take rm)), .int .u8 0, .int .u8 0, .int .u8 0, .int .u8 0, .string ⟨#[]⟩, .int .i64 0]
        have hAS := hDS.upd kxS (by simp)
        have bAS := hAS.blk.cell (i := 4) rfl
        rw [hvoS] at bAS
        have hEA := (hCo _ hC0).2.upd kxS (by simp)
        refine hK _ _ (hCi _ bAS hEA) ?_
        clear hK K
        have hoAS := hAS.outs
        rw [hvoS] at hoAS
        have hbsAS := hAS.bsz
        refine wpFx_es rfl rfl (fun K hK => ?_)
        with_reducible refine wp_append_gen (.tmp 32) (.tmp 39) 42 42 rfl 51 (outV ⟨0, 0, .empty, DestM.zero⟩) 10 72 Try.underlying42 Try.infoOut rfl base ?a1 (.slice ao p.outs.length co) p.outs.length (outsC p.outs) rfl ?a2 _ 1 (outC ⟨2, i, strB (bs.take rm), DestM.zero⟩) rfl ?a3 ?a4 ?a5 ?a6
        case a1 => exact hbsAS
        case a2 => exact hoAS
        case a3 => exact Src.ofSlice _ Try.underlying42 ⟨_, 0, none⟩ _ _ _ rfl (fun j u hj => by rw [addr_add, Nat.zero_add]; exact hNS.cell hj) (outC_one _)
        case a4 => unfold maxLen; omega
        case a5 => omega
        case a6 =>
          intro v' w4z hown4 hU4 hblk4 hnil4 hoff4
          have hnb : c ∉ (Value.slice ao p.outs.length co).ownBlock.toList := fun hq => (hAS.to c (by rw [hvoS]; exact mem_ownP hq)).ne hAS.tb (by decide) rfl
          have hb4 := hAS.blk.upd hU4 hnb
          have cb4 := hb4.cell (i := 4) rfl
          have cf4 := hb4.frozen 4
          rw [hvoS] at cb4
          obtain ⟨ao', co', rfl⟩ := hown4.shape
          have hR := hAS.reout (outs' := p.outs ++ [⟨2, i, strB (bs.take rm), DestM.zero⟩]) (w1 := w4z) (vo' := .slice ao' (p.outs.length + 1) co') (by rw [hvoS]; exact hU4) (by rw [List.length_append, outsC_append, show outsC [⟨2, i, strB (bs.take rm), DestM.zero⟩] = outC ⟨2, i, strB (bs.take rm), DestM.zero⟩ by simp [outsC]]; exact hown4) (fun q hq => by rw [hvoS]; exact hblk4 q hq) rfl
          have hE4 := hEA.upd hU4 (fun q hq hq' => hvn' q hq (h.to q (by rw [hvoS]; exact mem_ownP hq')).2.2)
          refine hK _ _ (hCi _ cb4 hE4) ?_
          clear hK K
          clear hown4 hU4 hblk4 hnil4 hoff4 hnb hoAS hNS
          go_simp
          refine wpFx_pure rfl (fun K hK => ?_); go_simp; refine hK _ ?_; clear hK K
          refine wpFx_pure rfl (fun K hK => ?_); go_simp; refine hK _ ?_; clear hK K
          refine wpFx_et rfl rfl rfl (fun K hK => ?_); go_simp
          refine hK _ _ ?_; clear hK K
          refine wpFx_nil ?_
          clear hC0 hCi hCo hC cc hE4 hEA
          go_wp2_with fail
          go_ret
          exact ⟨rfl, (((RPost.mk' hR.1 hR.2.1 hR.2.2).pre kxS).pre kdS).after hUs (Within.refl _ _)⟩

end

end Go.Proofs.Ytnbhgfnjnccakaa
