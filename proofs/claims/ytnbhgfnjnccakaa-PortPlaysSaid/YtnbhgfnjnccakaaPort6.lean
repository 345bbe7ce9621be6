/- The walks of the port's Event: data, room; of Send and Fin. -/
import Derived.Test.YtnbhgfnjnccakaaPort5
namespace Go.Proofs.Ytnbhgfnjnccakaa
open Go Go.RowKit
set_option linter.unusedVariables false

section
variable {w w1 : World} {base b : Nat} {l : PLay} {p : PortM}

/-- Data that comes in at an open endpoint. -/
def EndM.gets (e : EndM) (size : Nat) (bs : List UInt8) : EndM := { e with xs := e.xs ++ bs.take (putK size e.xs bs) }

set_option maxHeartbeats 1000000 in
set_option maxRecDepth 100000 in
theorem ev_data_ok (n : Int) (bs : List UInt8) (hbl : bs.length ≤ 140737488355328) (ra : Option Addr) (rl rc : Nat) {i : Nat} {x : EndM} (h : PortAt w base b l p) (hx : p.ends[i]? = some x) (hst : x.st = 1) (hth : x.theirs = false) :
    Calls Try.prog 17 #[.pointer (some ⟨b, 0, none⟩), evV 2 i n bs ra rl rc] w (EvPost w base b l (putK p.size x.xs bs) 0 (p.setEnd i (x.gets p.size bs))) := by
  unfold evV
  have hX := blk_new' w 34 #[.int .i64 2, .int .i64 i, .int .i64 n, .string (strB bs), .slice ra rl rc]
  have k1 : Upd [] w (w.alloc (.cells #[.int .i64 2, .int .i64 i, .int .i64 n, .string (strB bs), .slice ra rl rc] 34)) := (Upd.refl _ _).alloc _
  have h1 := h.upd k1 (by simp)
  have his := pt_is h1
  obtain ⟨g, off, cap, hv, hg, _⟩ := h1.cells hx
  obtain ⟨c0, c1, c2, c3, c4, c5, hfz⟩ := h1.cellsAt hx hv
  have hs := pt_stream_at h1 hx hv
  have hil := (List.getElem?_eq_some_iff.1 hx).1
  obtain ⟨t1, t2⟩ := h.tr i hil
  have x0 := hX.cell (i := 0) rfl
  have x1 := hX.cell (i := 1) rfl
  have x3 := hX.cell (i := 3) rfl
  have b0 := h1.blk.cell (i := 0) rfl
  have hXn : ∀ n q, l.has base n q → w.heap.size ≠ q := fun n q hq e => by have := h.lt q hq.2.2; omega
  rw [hst] at c1
  rw [hth] at c4
  clear hfz
  go_enter Try.func17, Try.ntmps17
  go_wp2_with (first | (go_at_call 55; refine his.mono ?_; rintro e w' ⟨rfl, rfl⟩) | (go_at_call 57; refine hs.mono ?_; rintro e w' ⟨rfl, rfl⟩))
  go_quiet (fail)
  go_wp2_with fail
  have h2 : PortAt ((w.alloc (.cells #[.int .i64 2, .int .i64 i, .int .i64 n, .string (strB bs), .slice ra rl rc] 34)).drewN nq).drew base b l p := (h1.drewN nq).drewN 1
  have k2 : Upd [] w ((w.alloc (.cells #[.int .i64 2, .int .i64 i, .int .i64 n, .string (strB bs), .slice ra rl rc] 34)).drewN nq).drew := (k1.drewN nq).drew
  obtain ⟨C, hC⟩ : ∃ C : World → Prop, C = fun w' => w'.cell? ⟨g, off + i * 6, none⟩ = some (.pointer (some ⟨l.rb i, 0, none⟩)) ∧ w'.cell? ⟨w.heap.size, 3, none⟩ = some (.string (strB bs)) := ⟨_, rfl⟩
  have hCo : ∀ w', C w' → w'.cell? ⟨g, off + i * 6, none⟩ = some (.pointer (some ⟨l.rb i, 0, none⟩)) ∧ w'.cell? ⟨w.heap.size, 3, none⟩ = some (.string (strB bs)) := fun w' h => by rw [hC] at h; exact h
  have hCi : ∀ w', w'.cell? ⟨g, off + i * 6, none⟩ = some (.pointer (some ⟨l.rb i, 0, none⟩)) → w'.cell? ⟨w.heap.size, 3, none⟩ = some (.string (strB bs)) → C w' := fun w' h1 h2 => by rw [hC]; exact ⟨h1, h2⟩
  have hC0 : C ((w.alloc (.cells #[.int .i64 2, .int .i64 i, .int .i64 n, .string (strB bs), .slice ra rl rc] 34)).drewN nq).drew := hCi _ c0 x3
  have cc1 : ∀ x : { w' // C w' }, x.1.cell? ⟨g, off + i * 6, none⟩ = some (.pointer (some ⟨l.rb i, 0, none⟩)) := fun y => by obtain ⟨y, h⟩ := y; exact (hCo _ h).1
  have cc2 : ∀ y : { w' // C w' }, y.1.cell? ⟨w.heap.size, 3, none⟩ = some (.string (strB bs)) := fun y => by obtain ⟨y, h⟩ := y; exact (hCo _ h).2
  haveI : Nonempty { w' // C w' } := ⟨⟨_, hC0⟩⟩
  refine wp_region_fxl C [6, 7] [] [3, 5] rfl (by kernel_rfl) hC0 (fun M => ?_)
  clear h1 k1 hX x0 x1 x3 c0 c1 c2 c3 c4 c5 b0 his hs
  generalize hW : ((w.alloc (.cells #[.int .i64 2, .int .i64 i, .int .i64 n, .string (strB bs), .slice ra rl rc] 34)).drewN nq).drew = w2 at *
  refine wpFx_pure rfl (fun K hK => ?_); go_simp; refine hK _ ?_; clear hK K
  refine wpFx_pure rfl (fun K hK => ?_); go_simp; refine hK _ ?_; clear hK K
  refine wpFx_pure rfl (fun K hK => ?_); go_simp; refine hK _ ?_; clear hK K
  refine wpFx_load rfl rfl (fun K hK => ?_); go_simp; refine hK _ ?_; clear hK K
  refine wpFx_pure rfl (fun K hK => ?_); go_simp; refine hK _ ?_; clear hK K
  refine wpFx_load rfl rfl (fun K hK => ?_); go_simp; refine hK _ ?_; clear hK K
  obtain ⟨cc, w3, hcv, hrd, hku⟩ := conv_bytes w2 bs hbl
  refine wpFx_es rfl rfl (fun K hK => ?_); go_simp
  have h3 := h2.upd hku (by simp)
  have hlt2 := h2.lt
  refine hK _ _ (hCi _ (by rw [hku.cell (World.block_lt_of_cell? _ _ (hCo _ hC0).1) (by simp)]; exact (hCo _ hC0).1) (by rw [hku.cell (World.block_lt_of_cell? _ _ (hCo _ hC0).2) (by simp)]; exact (hCo _ hC0).2)) ?_
  clear hK K
  have hC3 : C w3 := hCi _ (by rw [hku.cell (World.block_lt_of_cell? _ _ (hCo _ hC0).1) (by simp)]; exact (hCo _ hC0).1) (by rw [hku.cell (World.block_lt_of_cell? _ _ (hCo _ hC0).2) (by simp)]; exact (hCo _ hC0).2)
  have hR := rh_put (h3.rings i x hx) hrd (fun _ e => by simp [Value.ownBlock] at e; have := hlt2 _ t2.2.2; omega)
  clear hcv hC0 h2
  refine wpFx_es rfl rfl (fun K hK => ?_); go_simp
  refine hR.mono ?_
  rintro e w4 ⟨rfl, hR4, hU4⟩
  have pp := h3.ringStep hx hU4 hR4
  refine hK _ _ (hCi _ (by rw [hU4.cell (World.block_lt_of_cell? _ _ (hCo _ hC3).1) (by simp; exact ⟨hg.ne t1 (by omega), hg.ne t2 (by omega)⟩)]; exact (hCo _ hC3).1) (by rw [hU4.cell (World.block_lt_of_cell? _ _ (hCo _ hC3).2) (by simp; exact ⟨hXn _ _ t1, hXn _ _ t2⟩)]; exact (hCo _ hC3).2)) ?_
  clear hK K
  refine wpFx_pure rfl (fun K hK => ?_); go_simp; refine hK _ ?_; clear hK K
  refine wpFx_pure rfl (fun K hK => ?_); go_simp; refine hK _ ?_; clear hK K
  refine wpFx_nil ?_
  go_wp2_with fail
  go_ret2
  exact ⟨rfl, pp.1, ((k2.trans_same hku).mono (by simp)).trans_same pp.2⟩

set_option maxHeartbeats 1000000 in
set_option maxRecDepth 100000 in
theorem ev_room_ok (n : Nat) (bs : List UInt8) (ra : Option Addr) (rl rc : Nat) {i : Nat} {x : EndM} (h : PortAt w base b l p) (hx : p.ends[i]? = some x) (hst : x.st = 1) :
    Calls Try.prog 17 #[.pointer (some ⟨b, 0, none⟩), evV 5 i n bs ra rl rc] w (EvPost w base b l 0 0 (p.setEnd i { x with room := x.room + min n (1099511627776 - x.room) })) := by
  unfold evV
  have hX := blk_new' w 34 #[.int .i64 5, .int .i64 i, .int .i64 n, .string (strB bs), .slice ra rl rc]
  have k1 : Upd [] w (w.alloc (.cells #[.int .i64 5, .int .i64 i, .int .i64 n, .string (strB bs), .slice ra rl rc] 34)) := (Upd.refl _ _).alloc _
  have h1 := h.upd k1 (by simp)
  have his := pt_is h1
  obtain ⟨g, off, cap, hv, hg, _⟩ := h1.cells hx
  obtain ⟨c0, c1, c2, c3, c4, c5, hfz⟩ := h1.cellsAt hx hv
  have hs := pt_stream_at h1 hx hv
  have hfx := h.fine x (List.mem_of_getElem? hx)
  have x0 := hX.cell (i := 0) rfl
  have x1 := hX.cell (i := 1) rfl
  have x2 := hX.cell (i := 2) rfl
  have b0 := h1.blk.cell (i := 0) rfl
  have f2 := hfz (off + i * 6 + 2)
  have hr2 := hfx.2
  have e1 : IntKind.i64.wrap (1099511627776 - (x.room : Int)) = ((1099511627776 - x.room : Nat) : Int) := by rw [IntWalk.i64_in _ (by omega)]; omega
  have pp := fun m => (h1.drewN m).step (j := 2) (e' := { x with room := x.room + min n (1099511627776 - x.room) }) (u := .int .i64 ((x.room + min n (1099511627776 - x.room) : Nat) : Int)) hx hv (by decide) rfl rfl ⟨hfx.1, by show x.room + min n (1099511627776 - x.room) ≤ _; omega⟩
  rw [hst] at c1
  clear hfz
  go_enter Try.func17, Try.ntmps17
  go_wp2_with (first | (go_at_call 55; refine his.mono ?_; rintro e w' ⟨rfl, rfl⟩) | (go_at_call 57; refine hs.mono ?_; rintro e w' ⟨rfl, rfl⟩))
  go_quiet (fail)
  go_wp2_with fail
  refine wp_region_tail 15 (by kernel_rfl) (by kernel_rfl) ?_
  simp only [List.take_succ_cons, List.take_zero, List.drop_succ_cons, List.drop_zero]
  repeat still_step
  refine wpStill_nil ?_
  have m1 : 1099511627776 - x.room < n → ((x.room + min n (1099511627776 - x.room) : Nat) : Int) = (x.room : Int) + ((1099511627776 - x.room : Nat) : Int) := fun _ => by omega
  have m2 : ¬ 1099511627776 - x.room < n → ((x.room + min n (1099511627776 - x.room) : Nat) : Int) = (x.room : Int) + (n : Int) := fun _ => by omega
  have M1 := Lib.hid m1
  have M2 := Lib.hid m2
  clear m1 m2
  go_wp2_with fail
  all_goals
    go_ret2
    refine ⟨rfl, ?_⟩
    have q := pp (nq + 1)
    first
      | rw [M1.out h] at q
      | rw [M2.out h] at q
    first
      | exact ⟨q.1, ((k1.mono (by simp)).drewN _).trans_same q.2⟩
      | (rw [hst] at q; exact ⟨q.1, ((k1.mono (by simp)).drewN _).trans_same q.2⟩)

/-! ### Send, Fin -/

/-- What Send takes, and the port behind it. -/
def PortM.sendN (p : PortM) (k : Int) (bs : List UInt8) : Nat := min (p.roomOf k) bs.length
def PortM.sent (p : PortM) (k : Int) (bs : List UInt8) : PortM := match p.at? k with
  | some e => if p.sendN k bs = 0 then p else { p.setEnd k.toNat { e with room := e.room - p.sendN k bs } with outs := p.outs ++ [⟨2, k, strB (bs.take (p.sendN k bs)), DestM.zero⟩] }
  | none => p

theorem pt_find_at {i g off cap : Nat} {x : EndM} (h : PortAt w base b l p) (hx : p.ends[i]? = some x) (hv : l.vl = .slice (some ⟨g, off, none⟩) p.ends.length cap) :
    Calls Try.prog 63 #[.pointer (some ⟨b, 0, none⟩), .int .i64 i] w fun e w' => e = .returned (.tuple #[.pointer (some ⟨g, off + i * 6, none⟩), .int .i64 0]) ∧ w = w' := by
  refine (pt_find i h).mono ?_
  rintro e w' ⟨⟨a, rfl, hs⟩, rfl⟩
  rcases hs with ⟨hn, _⟩ | ⟨j, y, g', off', cap', hij, hy, hay, hv', rfl⟩
  · rw [PortM.at?_nat, hx] at hn; cases hn
  · have : i = j := by omega
    subst this
    rw [hv] at hv'
    cases hv'
    exact ⟨by unfold PortM.state; rw [hay]; rfl, rfl⟩
theorem pt_find_none {k : Int} (h : PortAt w base b l p) (hn : p.at? k = none) :
    Calls Try.prog 63 #[.pointer (some ⟨b, 0, none⟩), .int .i64 k] w fun e w' => e = .returned (.tuple #[.pointer none, .int .i64 2]) ∧ w = w' := by
  refine (pt_find k h).mono ?_
  rintro e w' ⟨⟨a, rfl, hs⟩, rfl⟩
  rcases hs with ⟨_, rfl⟩ | ⟨j, y, g', off', cap', hij, hy, hs, _⟩
  · exact ⟨by unfold PortM.state; rw [hn]; rfl, rfl⟩
  · rw [hn] at hs; cases hs

theorem Rd.take {av : Option Addr} {bs : List UInt8} {n c : Nat} (h : Rd w (.slice av bs.length c) bs) (hn : n ≤ bs.length) : Rd w (.slice av n c) (bs.take n) := by
  obtain ⟨ao, cap, hv, h1, h2, h3, h4⟩ := h
  cases hv
  have hl : (bs.take n).length = n := by rw [List.length_take]; omega
  refine ⟨av, c, by rw [hl], by rw [hl]; omega, h2, h3, fun ad had => ?_⟩
  obtain ⟨h5, h6⟩ := h4 ad had
  refine ⟨fun hne => h5 (fun e => hne (by rw [e]; simp)), fun j u hj => h6 j u ?_⟩
  rw [List.map_take, List.getElem?_take] at hj
  split at hj
  · exact hj
  · cases hj

set_option maxHeartbeats 1000000 in
set_option maxRecDepth 100000 in
theorem pt_send (k : Int) {v : Value} {bs : List UInt8} (h : PortAt w base b l p) (hrd : Rd w v bs) (hbl : bs.length ≤ 140737488355328) (hvo : ∀ q, v.ownBlock = some q → q ∉ l.foot) (hlen : p.outs.length < 1900000000000) :
    Calls Try.prog 23 #[.pointer (some ⟨b, 0, none⟩), .int .i64 k, v] w fun e w' => e = .returned (.int .i64 (p.sendN k bs : Nat)) ∧ PPost w base b l (p.sent k bs) w' := by
  have hr := pt_room k h
  have b1 := h.blk.cell (i := 1) rfl
  obtain ⟨av, cv, rfl⟩ : ∃ av cv, v = .slice av bs.length cv := by obtain ⟨av, cv, hh, _⟩ := hrd; exact ⟨av, cv, hh⟩
  by_cases hle : bs.length < p.roomOf k
  · have hN : p.sendN k bs = bs.length := by unfold PortM.sendN; omega
    by_cases hz0 : bs.length = 0
    · have h0 : p.sendN k bs = 0 := by rw [hN]; exact hz0
      have hT : p.sent k bs = p := by unfold PortM.sent; split; rw [if_pos h0]; rfl
      have hz : bs.length = 0 := hz0
      rw [h0, hT]
      clear h0 hT hN
      go_enter Try.func23, Try.ntmps23
      go_wp2_with fail
      refine hr.mono ?_
      rintro e w' ⟨rfl, rfl⟩
      go_wp2_with fail
      go_ret
      exact ⟨by first | rfl | (rw [hz]; rfl), (PSame.refl h).post⟩
    · have h0 : ¬ p.sendN k bs = 0 := by rw [hN]; exact hz0
      have hpos : 0 < bs.length := by omega
      have hroom : 0 < p.roomOf k := by omega
      rcases p.at?_cases k with ⟨hn, _⟩ | ⟨i, x, rfl, hx, hax, hil⟩
      · unfold PortM.roomOf at hroom; rw [hn] at hroom; exact absurd hroom (Nat.lt_irrefl 0)
      · have hro : p.roomOf i = x.roomN := by unfold PortM.roomOf; rw [hax]
        have hst : x.st = 1 ∧ x.ours = false := by
          rw [hro] at hroom
          unfold EndM.roomN at hroom
          by_cases hh : x.st = 1 ∧ x.ours = false
          · exact hh
          · rw [if_neg hh] at hroom; exact absurd hroom (Nat.lt_irrefl 0)
        have hxr : x.roomN = x.room := by unfold EndM.roomN; rw [if_pos hst]
        have hT : p.sent i bs = { p.setEnd i { x with room := x.room - bs.length } with outs := p.outs ++ [⟨2, i, strB (bs.take bs.length), DestM.zero⟩] } := by
          unfold PortM.sent; rw [hax]; simp only []; rw [if_neg h0, hN, Int.toNat_natCast]
        obtain ⟨g, off, cap, hv, hg, _⟩ := h.cells hx
        obtain ⟨c0, c1, c2, c3, c4, c5, hfz⟩ := h.cellsAt hx hv
        have f2 := hfz (off + i * 6 + 2)
        have hfx := h.fine x (List.mem_of_getElem? hx)
        have eadd : (⟨g, off, none⟩ : Addr).add (i * 6) = ⟨g, off + i * 6, none⟩ := addr_add _ _ _
        have hr2 := hfx.2
        rw [hv] at b1
        have hle' : bs.length ≤ x.room := by omega
        have hlb : bs.length ≤ bs.length := by omega
        have ew : IntKind.i64.wrap ((x.room : Int) - (bs.length : Nat)) = ((x.room - bs.length : Nat) : Int) := by rw [IntWalk.i64_in _ (by omega)]; omega
        have pp := h.step (j := 2) (e' := { x with room := x.room - bs.length }) (u := .int .i64 ((x.room - bs.length : Nat) : Int)) hx hv (by decide) rfl rfl ⟨hfx.1, by show x.room - _ ≤ _; omega⟩
        have hrd2 := (hrd.take hlb).upd pp.2 (fun q hq => hvo q (by rw [← hq]; try (cases av <;> rfl)))
        have hcv := run_string_of (P := Try.prog) hrd2 35 5 9 Try.underlying35 Try.underlying5 Try.underlying9
        have hput := pt_put ⟨2, i, strB (bs.take bs.length), DestM.zero⟩ pp.1 hlen
        rw [hT, hN]
        simp only [hro, hxr] at hr hle hN hroom hpos
        try rw [hro, hxr]
        try simp only [List.take_length] at hput hcv hrd2 ⊢
        obtain ⟨ao', cap', hvv, hlc, hcm, hnil, hsome⟩ := hrd
        cases hvv
        obtain ⟨ad, rfl⟩ : ∃ ad, av = some ad := by
          cases av with
          | none => have := hnil rfl; omega
          | some ad => exact ⟨ad, rfl⟩
        have hsp := (hsome ad rfl).1 (by intro e; first | (rw [e] at hpos; simp at hpos; done) | (rw [e] at hlb; simp at hlb; omega))
        obtain ⟨gb, ob, sp⟩ := ad
        simp only at hsp
        subst hsp
        have ea0 : (⟨gb, ob, none⟩ : Addr).add 0 = ⟨gb, ob, none⟩ := by rw [addr_add]; rfl
        have hcv0 : ¬ cv = 0 := by omega
        have hz00 : ((x.room - x.room : Nat) : Int) = 0 := by omega
        try rw [hz00] at pp hput hcv hrd2 ew
        clear hfz hT hN h0 c0 c1 c3 c4 c5 hsome hnil
        go_enter Try.func23, Try.ntmps23
        go_wp2_with fail
        refine hr.mono ?_
        rintro e w' ⟨rfl, rfl⟩
        go_wp2_with fail
        refine hput.mono ?_
        rintro e w3 ⟨rfl, l', _, hP, hU3, hW3⟩
        go_wp2_with fail
        go_ret
        exact ⟨rfl, l', hP, pp.2.trans_same hU3, Within.trans pp.2 (Within.refl _ _) hW3⟩
  · have hN : p.sendN k bs = p.roomOf k := by unfold PortM.sendN; omega
    by_cases hz0 : p.roomOf k = 0
    · have h0 : p.sendN k bs = 0 := by rw [hN]; exact hz0
      have hT : p.sent k bs = p := by unfold PortM.sent; split; rw [if_pos h0]; rfl
      have hz : p.roomOf k = 0 := hz0
      rw [h0, hT]
      clear h0 hT hN
      go_enter Try.func23, Try.ntmps23
      go_wp2_with fail
      refine hr.mono ?_
      rintro e w' ⟨rfl, rfl⟩
      go_wp2_with fail
      go_ret
      exact ⟨by first | rfl | (rw [hz]; rfl), (PSame.refl h).post⟩
    · have h0 : ¬ p.sendN k bs = 0 := by rw [hN]; exact hz0
      have hpos : 0 < p.roomOf k := by omega
      have hroom : 0 < p.roomOf k := by omega
      rcases p.at?_cases k with ⟨hn, _⟩ | ⟨i, x, rfl, hx, hax, hil⟩
      · unfold PortM.roomOf at hroom; rw [hn] at hroom; exact absurd hroom (Nat.lt_irrefl 0)
      · have hro : p.roomOf i = x.roomN := by unfold PortM.roomOf; rw [hax]
        have hst : x.st = 1 ∧ x.ours = false := by
          rw [hro] at hroom
          unfold EndM.roomN at hroom
          by_cases hh : x.st = 1 ∧ x.ours = false
          · exact hh
          · rw [if_neg hh] at hroom; exact absurd hroom (Nat.lt_irrefl 0)
        have hxr : x.roomN = x.room := by unfold EndM.roomN; rw [if_pos hst]
        have hT : p.sent i bs = { p.setEnd i { x with room := x.room - x.room } with outs := p.outs ++ [⟨2, i, strB (bs.take x.room), DestM.zero⟩] } := by
          unfold PortM.sent; rw [hax]; simp only []; rw [if_neg h0, hN, hro, hxr, Int.toNat_natCast]
        obtain ⟨g, off, cap, hv, hg, _⟩ := h.cells hx
        obtain ⟨c0, c1, c2, c3, c4, c5, hfz⟩ := h.cellsAt hx hv
        have f2 := hfz (off + i * 6 + 2)
        have hfx := h.fine x (List.mem_of_getElem? hx)
        have eadd : (⟨g, off, none⟩ : Addr).add (i * 6) = ⟨g, off + i * 6, none⟩ := addr_add _ _ _
        have hr2 := hfx.2
        rw [hv] at b1
        have hle' : x.room ≤ x.room := by omega
        have hlb : x.room ≤ bs.length := by omega
        have ew : IntKind.i64.wrap ((x.room : Int) - (x.room : Nat)) = ((x.room - x.room : Nat) : Int) := by rw [IntWalk.i64_in _ (by omega)]; omega
        have pp := h.step (j := 2) (e' := { x with room := x.room - x.room }) (u := .int .i64 ((x.room - x.room : Nat) : Int)) hx hv (by decide) rfl rfl ⟨hfx.1, by show x.room - _ ≤ _; omega⟩
        have hrd2 := (hrd.take hlb).upd pp.2 (fun q hq => hvo q (by rw [← hq]; try (cases av <;> rfl)))
        have hcv := run_string_of (P := Try.prog) hrd2 35 5 9 Try.underlying35 Try.underlying5 Try.underlying9
        have hput := pt_put ⟨2, i, strB (bs.take x.room), DestM.zero⟩ pp.1 hlen
        rw [hT, hN]
        simp only [hro, hxr] at hr hle hN hroom hpos
        try rw [hro, hxr]
        obtain ⟨ao', cap', hvv, hlc, hcm, hnil, hsome⟩ := hrd
        cases hvv
        obtain ⟨ad, rfl⟩ : ∃ ad, av = some ad := by
          cases av with
          | none => have := hnil rfl; omega
          | some ad => exact ⟨ad, rfl⟩
        have hsp := (hsome ad rfl).1 (by intro e; first | (rw [e] at hpos; simp at hpos; done) | (rw [e] at hlb; simp at hlb; omega))
        obtain ⟨gb, ob, sp⟩ := ad
        simp only at hsp
        subst hsp
        have ea0 : (⟨gb, ob, none⟩ : Addr).add 0 = ⟨gb, ob, none⟩ := by rw [addr_add]; rfl
        have hcv0 : ¬ cv = 0 := by omega
        have hz00 : ((x.room - x.room : Nat) : Int) = 0 := by omega
        try rw [hz00] at pp hput hcv hrd2 ew
        clear hfz hT hN h0 c0 c1 c3 c4 c5 hsome hnil
        go_enter Try.func23, Try.ntmps23
        go_wp2_with fail
        refine hr.mono ?_
        rintro e w' ⟨rfl, rfl⟩
        go_wp2_with fail
        refine hput.mono ?_
        rintro e w3 ⟨rfl, l', _, hP, hU3, hW3⟩
        go_wp2_with fail
        go_ret
        exact ⟨rfl, l', hP, pp.2.trans_same hU3, Within.trans pp.2 (Within.refl _ _) hW3⟩

end

end Go.Proofs.Ytnbhgfnjnccakaa
