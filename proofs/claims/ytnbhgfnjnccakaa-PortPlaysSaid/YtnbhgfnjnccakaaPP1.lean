/- What the port and the document's one still lack for the law's play: Dial that is refused, Post, Used. -/
import Derived.Test.YtnbhgfnjnccakaaEv
import Derived.Test.YtnbhgfnjnccakaaTwo
import Derived.Test.YtnbhgfnjnccakaaRelay2
namespace Go.Proofs.Ytnbhgfnjnccakaa
open Go Go.RowKit
set_option linter.unusedVariables false

section
variable {w w1 : World} {base b : Nat} {l : PLay} {p : PortM}

theorem pt_dial_bad (d : DestM) (h : PortAt w base b l p) (hb : d.port < 1 ∨ 65535 < d.port ∨ ¬ d.name.toList = []) :
    Calls Try.prog 52 #[.pointer (some ⟨b, 0, none⟩), destV d] w fun e w' => e = .returned (.tuple #[.int .i64 0, .int .i64 2]) ∧ PPost w base b l p w' := by
  obtain ⟨da, db, dc, dd, name, port⟩ := d
  have hX := blk_new' w 49 #[.int .u8 da, .int .u8 db, .int .u8 dc, .int .u8 dd, .string name, .int .i64 port]
  have k1 : Upd [] w (w.alloc (.cells #[.int .u8 da, .int .u8 db, .int .u8 dc, .int .u8 dd, .string name, .int .i64 port] 49)) := (Upd.refl _ _).alloc _
  have h1 := h.upd k1 (by simp)
  have his := pt_is h1
  have x4 := hX.cell (i := 4) rfl
  have x5 := hX.cell (i := 5) rfl
  have hfin := PPost.pre (PPost.refl h1) k1
  show Calls Try.prog 52 #[.pointer (some ⟨b, 0, none⟩), .agg #[.int .u8 da, .int .u8 db, .int .u8 dc, .int .u8 dd, .string name, .int .i64 port]] w _
  by_cases d1 : port < 1
  · clear hb
    go_enter Try.func52, Try.ntmps52
    go_wp2_with (go_at_call 55; refine his.mono ?_; rintro e w' ⟨rfl, rfl⟩)
    go_ret2
    exact ⟨rfl, hfin⟩
  · by_cases d2 : 65535 < port
    · clear hb
      go_enter Try.func52, Try.ntmps52
      go_wp2_with (go_at_call 55; refine his.mono ?_; rintro e w' ⟨rfl, rfl⟩)
      go_ret2
      exact ⟨rfl, hfin⟩
    · have d3 : ¬ name.toList = [] := by
        rcases hb with q | q | q
        · exact absurd q d1
        · exact absurd q d2
        · exact q
      have d4 : name.toList.isEmpty = false := by
        cases hh : name.toList with
        | nil => exact absurd hh d3
        | cons a r => rfl
      clear hb
      go_enter Try.func52, Try.ntmps52
      go_wp2_with (go_at_call 55; refine his.mono ?_; rintro e w' ⟨rfl, rfl⟩)
      go_ret2
      exact ⟨rfl, hfin⟩

set_option maxHeartbeats 1000000 in
set_option maxRecDepth 100000 in
theorem pt_dial_full (d : DestM) (h : PortAt w base b l p) (hp1 : 1 ≤ d.port) (hp2 : d.port ≤ 65535) (hn : d.name = .empty) (hfull : ¬ p.dialIx < p.ends.length) :
    Calls Try.prog 52 #[.pointer (some ⟨b, 0, none⟩), destV d] w fun e w' => e = .returned (.tuple #[.int .i64 0, .int .i64 4]) ∧ PPost w base b l p w' := by
  obtain ⟨da, db, dc, dd, name, port⟩ := d
  have hn' : name = ⟨#[]⟩ := hn
  subst hn'
  clear hn
  have hp1 : 1 ≤ port := hp1
  have hp2 : port ≤ 65535 := hp2
  have hX := blk_new' w 49 #[.int .u8 da, .int .u8 db, .int .u8 dc, .int .u8 dd, .string ⟨#[]⟩, .int .i64 port]
  have k1 : Upd [] w (w.alloc (.cells #[.int .u8 da, .int .u8 db, .int .u8 dc, .int .u8 dd, .string ⟨#[]⟩, .int .i64 port] 49)) := (Upd.refl _ _).alloc _
  have h1 := h.upd k1 (by simp)
  have his := pt_is h1
  have x4 := hX.cell (i := 4) rfl
  have x5 := hX.cell (i := 5) rfl
  have b0 := h1.blk.cell (i := 0) rfl
  have b1 := h1.blk.cell (i := 1) rfl
  obtain ⟨ao, co, hvl⟩ := h.vlShape
  rw [hvl] at b1
  have hsm := h.small
  have hcl := h.cl
  have d1 : ¬ port < 1 := by omega
  have d2 : ¬ 65535 < port := by omega
  have hnone : ∀ k x, p.clients ≤ k → p.ends[k]? = some x → x.st ≠ 0 := fun k x hk hx hs => by
    refine hfull ?_
    unfold PortM.dialIx
    have hkl := (List.getElem?_eq_some_iff.1 hx).1
    have : (p.ends.drop p.clients).findIdx (fun e => e.st == 0) < (p.ends.drop p.clients).length := by
      refine List.findIdx_lt_length_of_exists ⟨x, ?_, by rw [hs]; rfl⟩
      refine List.mem_of_getElem? (i := k - p.clients) ?_
      rw [List.getElem?_drop, show p.clients + (k - p.clients) = k by omega]
      exact hx
    rw [List.length_drop] at this
    omega
  have hfin := PPost.pre (PPost.refl h1) k1
  clear hfull
  show Calls Try.prog 52 #[.pointer (some ⟨b, 0, none⟩), .agg #[.int .u8 da, .int .u8 db, .int .u8 dc, .int .u8 dd, .string ⟨#[]⟩, .int .i64 port]] w _
  go_enter Try.func52, Try.ntmps52
  go_wp2_with (go_at_call 55; refine his.mono ?_; rintro e w' ⟨rfl, rfl⟩)
  generalize hXe : w.heap.size = X at *
  generalize w.alloc (.cells #[.int .u8 da, .int .u8 db, .int .u8 dc, .int .u8 dd, .string ⟨#[]⟩, .int .i64 port] 49) = w1 at *
  go_loopw [6] (fun i wr => ∃ k : Nat, p.clients ≤ k ∧ k ≤ p.ends.length ∧ i = .int .i64 k ∧ wr = w1) (fun i _ => p.ends.length - (intOf i).toNat)
  case atStart => exact ⟨p.clients, Nat.le_refl _, hcl, rfl, rfl⟩
  case round =>
    obtain ⟨k, hkc, hk, rfl, rfl⟩ := hrel
    by_cases hlt : k < p.ends.length
    · obtain ⟨x, hx⟩ : ∃ x, p.ends[k]? = some x := ⟨p.ends[k], List.getElem?_eq_getElem hlt⟩
      obtain ⟨g, off, cap, hv, hg, _⟩ := h1.cells hx
      rw [hvl] at hv
      cases hv
      obtain ⟨c0, c1, c2, c3, c4, c5, hfz⟩ := h1.cellsAt hx hvl
      have eadd : (⟨g, off, none⟩ : Addr).add (k * 6) = ⟨g, off + k * 6, none⟩ := addr_add _ _ _
      have hst := hnone k x hkc hx
      have hst' : ¬ (x.st : Int) = 0 := by omega
      have hb0 : ((x.st : Int) == 0) = false := by simp; omega
      clear hfz hnone
      go_wp2_with fail
      go_roundw
      case rel => exact ⟨k + 1, by omega, hlt, by go_num, by first | rfl | trivial⟩
      case measure => simp [intOf]; omega
    · obtain rfl : k = p.ends.length := by omega
      clear hnone
      go_wp2_with fail
      go_ret2
      exact ⟨rfl, hfin⟩

set_option maxHeartbeats 1000000 in
set_option maxRecDepth 100000 in
theorem pt_post {v : Value} {bs : List UInt8} (h : PortAt w base b l p) (hrd : Rd w v bs) (hlen : p.outs.length < 1900000000000) :
    Calls Try.prog 49 #[.pointer (some ⟨b, 0, none⟩), v] w fun e w' => e = .returned (.int .i64 (postE bs : Nat)) ∧ PPost w base b l (p.posted bs) w' := by
  have his := pt_is h
  obtain ⟨av, cv, rfl⟩ : ∃ av cv, v = .slice av bs.length cv := by obtain ⟨av, cv, hh, _⟩ := hrd; exact ⟨av, cv, hh⟩
  by_cases hb : bs.length ≤ 512
  · have e1 : postE bs = 0 := if_pos hb
    have e2 : p.posted bs = p.told ⟨5, p.ends.length, strB bs, DestM.zero⟩ := if_pos hb
    have hb' : ¬ 512 < bs.length := by omega
    have hd : Upd [] w w.drew := (Upd.refl _ _).drew
    have h1 := h.upd hd (by simp)
    have b1 := h1.blk.cell (i := 1) rfl
    obtain ⟨ao, co, hvl⟩ := h.vlShape
    rw [hvl] at b1
    have hcv := run_string_of (P := Try.prog) (hrd.upd hd (by simp)) 35 5 9 Try.underlying35 Try.underlying5 Try.underlying9
    have hput := pt_put ⟨5, p.ends.length, strB bs, DestM.zero⟩ h1 hlen
    rw [e1, e2]
    go_enter Try.func49, Try.ntmps49
    go_wp2_with (go_at_call 55; refine his.mono ?_; rintro e w' ⟨rfl, rfl⟩)
    refine wp_region_tail 9 (by kernel_rfl) (by kernel_rfl) ?_
    simp only [List.take_succ_cons, List.take_zero, List.drop_succ_cons, List.drop_zero]
    repeat still_step
    refine wpStill_nil ?_
    go_wp2_with fail
    refine hput.mono ?_
    rintro e w3 ⟨rfl, l', _, hP, hU3, hW3⟩
    go_wp2_with fail
    go_ret
    exact ⟨rfl, PPost.pre ⟨l', hP, hU3, hW3⟩ hd⟩
  · have e1 : postE bs = 2 := if_neg hb
    have e2 : p.posted bs = p := if_neg hb
    have hb' : 512 < bs.length := by omega
    rw [e1, e2]
    go_enter Try.func49, Try.ntmps49
    go_wp2_with (go_at_call 55; refine his.mono ?_; rintro e w' ⟨rfl, rfl⟩)
    go_ret
    exact ⟨rfl, PPost.refl h⟩
end

section
variable {w w1 : World} {base c : Nat} {L : XLay} {p : PortM}

theorem rp_dial_bad (d : DestM) (h : RPortAt w base c L p) (hb : d.port < 1 ∨ 65535 < d.port ∨ ¬ d.name.toList = []) :
    Calls Try.prog 71 #[.pointer (some ⟨c, 0, none⟩), destV d] w fun e w' => e = .returned (.tuple #[.int .i64 0, .int .i64 2]) ∧ RPost w base c L p w' := by
  obtain ⟨da, db, dc, dd, name, port⟩ := d
  have hX := blk_new' w 49 #[.int .u8 da, .int .u8 db, .int .u8 dc, .int .u8 dd, .string name, .int .i64 port]
  have k1 : Upd [] w (w.alloc (.cells #[.int .u8 da, .int .u8 db, .int .u8 dc, .int .u8 dd, .string name, .int .i64 port] 49)) := (Upd.refl _ _).alloc _
  have h1 := h.upd k1 (by simp)
  have x4 := hX.cell (i := 4) rfl
  have x5 := hX.cell (i := 5) rfl
  have hfin := RPost.pre (RPost.refl h1) k1
  show Calls Try.prog 71 #[.pointer (some ⟨c, 0, none⟩), .agg #[.int .u8 da, .int .u8 db, .int .u8 dc, .int .u8 dd, .string name, .int .i64 port]] w _
  by_cases d1 : port < 1
  · clear hb
    go_enter Try.func71, Try.ntmps71
    go_wp2_with fail
    go_ret2
    exact ⟨rfl, hfin⟩
  · by_cases d2 : 65535 < port
    · clear hb
      go_enter Try.func71, Try.ntmps71
      go_wp2_with fail
      go_ret2
      exact ⟨rfl, hfin⟩
    · have d3 : ¬ name.toList = [] := by
        rcases hb with q | q | q
        · exact absurd q d1
        · exact absurd q d2
        · exact q
      have d4 : name.toList.isEmpty = false := by
        cases hh : name.toList with
        | nil => exact absurd hh d3
        | cons a r => rfl
      clear hb
      go_enter Try.func71, Try.ntmps71
      go_wp2_with fail
      go_ret2
      exact ⟨rfl, hfin⟩

set_option maxHeartbeats 1000000 in
set_option maxRecDepth 100000 in
theorem rp_dial_full (d : DestM) (h : RPortAt w base c L p) (hp1 : 1 ≤ d.port) (hp2 : d.port ≤ 65535) (hn : d.name = .empty) (hcl : p.clients ≤ p.ends.length) (hfull : ¬ p.dialIx < p.ends.length) :
    Calls Try.prog 71 #[.pointer (some ⟨c, 0, none⟩), destV d] w fun e w' => e = .returned (.tuple #[.int .i64 0, .int .i64 4]) ∧ RPost w base c L p w' := by
  obtain ⟨da, db, dc, dd, name, port⟩ := d
  have hn' : name = ⟨#[]⟩ := hn
  subst hn'
  clear hn
  have hp1 : 1 ≤ port := hp1
  have hp2 : port ≤ 65535 := hp2
  have hX := blk_new' w 49 #[.int .u8 da, .int .u8 db, .int .u8 dc, .int .u8 dd, .string ⟨#[]⟩, .int .i64 port]
  have k1 : Upd [] w (w.alloc (.cells #[.int .u8 da, .int .u8 db, .int .u8 dc, .int .u8 dd, .string ⟨#[]⟩, .int .i64 port] 49)) := (Upd.refl _ _).alloc _
  have h1 := h.upd k1 (by simp)
  have x4 := hX.cell (i := 4) rfl
  have x5 := hX.cell (i := 5) rfl
  have b0 := h1.blk.cell (i := 0) rfl
  have b2 := h1.blk.cell (i := 2) rfl
  obtain ⟨ao, co, hvl⟩ := h.veShape
  rw [hvl] at b2
  have hsm := h.small
  have d1 : ¬ port < 1 := by omega
  have d2 : ¬ 65535 < port := by omega
  have hnone : ∀ k x, p.clients ≤ k → p.ends[k]? = some x → x.st ≠ 0 := fun k x hk hx hs => by
    refine hfull ?_
    unfold PortM.dialIx
    have hkl := (List.getElem?_eq_some_iff.1 hx).1
    have : (p.ends.drop p.clients).findIdx (fun e => e.st == 0) < (p.ends.drop p.clients).length := by
      refine List.findIdx_lt_length_of_exists ⟨x, ?_, by rw [hs]; rfl⟩
      refine List.mem_of_getElem? (i := k - p.clients) ?_
      rw [List.getElem?_drop, show p.clients + (k - p.clients) = k by omega]
      exact hx
    rw [List.length_drop] at this
    omega
  have hfin := RPost.pre (RPost.refl h1) k1
  clear hfull
  show Calls Try.prog 71 #[.pointer (some ⟨c, 0, none⟩), .agg #[.int .u8 da, .int .u8 db, .int .u8 dc, .int .u8 dd, .string ⟨#[]⟩, .int .i64 port]] w _
  go_enter Try.func71, Try.ntmps71
  go_wp2_with fail
  generalize hXe : w.heap.size = X at *
  generalize w.alloc (.cells #[.int .u8 da, .int .u8 db, .int .u8 dc, .int .u8 dd, .string ⟨#[]⟩, .int .i64 port] 49) = w1 at *
  go_loopw [6] (fun i wr => ∃ k : Nat, p.clients ≤ k ∧ k ≤ p.ends.length ∧ i = .int .i64 k ∧ wr = w1) (fun i _ => p.ends.length - (intOf i).toNat)
  case atStart => exact ⟨p.clients, Nat.le_refl _, hcl, rfl, rfl⟩
  case round =>
    obtain ⟨k, hkc, hk, rfl, rfl⟩ := hrel
    by_cases hlt : k < p.ends.length
    · obtain ⟨x, hx⟩ : ∃ x, p.ends[k]? = some x := ⟨p.ends[k], List.getElem?_eq_getElem hlt⟩
      obtain ⟨g, off, cap, hv, hg, _⟩ := h1.cells hx
      rw [hvl] at hv
      cases hv
      obtain ⟨c0, c1, c2, c3, c4, c5, hfz⟩ := h1.cellsAt hx hvl
      have eadd : (⟨g, off, none⟩ : Addr).add (k * 6) = ⟨g, off + k * 6, none⟩ := addr_add _ _ _
      have hst := hnone k x hkc hx
      have hst' : ¬ (x.st : Int) = 0 := by omega
      have hb0 : ((x.st : Int) == 0) = false := by simp; omega
      clear hfz hnone
      go_wp2_with fail
      go_roundw
      case rel => exact ⟨k + 1, by omega, hlt, by go_num, by first | rfl | trivial⟩
      case measure => simp [intOf]; omega
    · obtain rfl : k = p.ends.length := by omega
      clear hnone
      go_wp2_with fail
      go_ret2
      exact ⟨rfl, hfin⟩

set_option maxHeartbeats 1000000 in
set_option maxRecDepth 100000 in
theorem rp_used (h : RPortAt w base c L p) : Calls Try.prog 51 #[.pointer (some ⟨c, 0, none⟩)] w fun e w' => e = .returned (.int .i64 (p.used : Nat)) ∧ w = w' := by
  have b2 := h.blk.cell (i := 2) rfl
  have hsm := h.small
  obtain ⟨ao, co, hvl⟩ := h.veShape
  rw [hvl] at b2
  have hbound : ∀ k, k ≤ p.ends.length → p.usedTo k ≤ k * 65536 := by
    intro k hk
    induction k with
    | zero => exact Nat.le_refl _
    | succ k ih =>
      have hx : p.ends[k]? = some p.ends[k] := List.getElem?_eq_getElem (by omega)
      have := (h.rings k _ hx).fit
      have := ih (by omega)
      rw [PortM.usedTo, hx]
      show _ + p.ends[k].xs.length ≤ _
      omega
  go_enter Try.func51, Try.ntmps51
  go_wp2_with fail
  go_loopw [3, 4] (fun a i wr => ∃ k : Nat, k ≤ p.ends.length ∧ i = .int .i64 k ∧ a = .int .i64 (p.usedTo k : Nat) ∧ wr = w) (fun _ i _ => p.ends.length - (intOf i).toNat)
  case atStart => exact ⟨0, Nat.zero_le _, rfl, rfl, rfl⟩
  case round =>
    obtain ⟨k, hk, rfl, rfl, rfl⟩ := hrel
    by_cases hlt : k < p.ends.length
    · obtain ⟨x, hx⟩ : ∃ x, p.ends[k]? = some x := ⟨p.ends[k], List.getElem?_eq_getElem hlt⟩
      obtain ⟨g, off, cap, hv, hg, _⟩ := h.cells hx
      rw [hvl] at hv
      cases hv
      obtain ⟨_, _, _, _, _, c5, _⟩ := h.cellsAt hx hvl
      have eadd : (⟨g, off, none⟩ : Addr).add (k * 6) = ⟨g, off + k * 6, none⟩ := addr_add _ _ _
      obtain ⟨ra, rc, hrv, hrow⟩ := (h.rings k x hx).row
      have hb1 := hbound (k + 1) hlt
      have hu : p.usedTo (k + 1) = p.usedTo k + x.xs.length := by rw [PortM.usedTo, hx]
      have ew : IntKind.i64.wrap ((p.usedTo k : Int) + (x.xs.length : Int)) = (p.usedTo k : Int) + (x.xs.length : Int) := IntWalk.i64_in _ (by omega)
      have Hu := Lib.hid hu
      clear hu hb1 hbound
      go_wp2_with fail
      go_roundw
      case rel => exact ⟨k + 1, hlt, by go_num, by rw [Hu.out]; rfl, by first | rfl | trivial⟩
      case measure => simp [intOf]; omega
    · obtain rfl : k = p.ends.length := by omega
      go_wp2_with fail
      go_ret
      exact ⟨rfl, rfl⟩
end

end Go.Proofs.Ytnbhgfnjnccakaa
