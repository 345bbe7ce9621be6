/- The walks of the port's Event at an idle endpoint, of a datagram, of Used and Gram. -/
import Derived.Test.YtnbhgfnjnccakaaPortArg2
namespace Go.Proofs.Ytnbhgfnjnccakaa
open Go Go.RowKit
set_option linter.unusedVariables false

section
variable {w w1 : World} {base b : Nat} {l : PLay} {p : PortM}

set_option maxHeartbeats 1000000 in
set_option maxRecDepth 100000 in
theorem ev_other (kd n : Int) (bs : List UInt8) (ra : Option Addr) (rl rc : Nat) {i : Nat} {x : EndM} (h : PortAt w base b l p) (hx : p.ends[i]? = some x) (hk : kd < 1 ∨ 8 < kd) :
    Calls Try.prog 17 #[.pointer (some ⟨b, 0, none⟩), evV kd i n bs ra rl rc] w (EvPost w base b l 0 2 p) := by
  unfold evV
  have hX := blk_new' w 34 #[.int .i64 kd, .int .i64 i, .int .i64 n, .string (strB bs), .slice ra rl rc]
  have k1 : Upd [] w (w.alloc (.cells #[.int .i64 kd, .int .i64 i, .int .i64 n, .string (strB bs), .slice ra rl rc] 34)) := (Upd.refl _ _).alloc _
  have h1 := h.upd k1 (by simp)
  have his := pt_is h1
  obtain ⟨g, off, cap, hv, hg, _⟩ := h1.cells hx
  have hs := pt_stream_at h1 hx hv
  have x0 := hX.cell (i := 0) rfl
  have x1 := hX.cell (i := 1) rfl
  have b0 := h1.blk.cell (i := 0) rfl
  have q1 : ¬ kd = 1 := by omega
  have q2 : ¬ kd = 2 := by omega
  have q3 : ¬ kd = 3 := by omega
  have q4 : ¬ kd = 4 := by omega
  have q5 : ¬ kd = 5 := by omega
  have q6 : ¬ kd = 6 := by omega
  have q7 : ¬ kd = 7 := by omega
  have q8 : ¬ kd = 8 := by omega
  go_enter Try.func17, Try.ntmps17
  go_wp2_with (first | (go_at_call 55; refine his.mono ?_; rintro e w' ⟨rfl, rfl⟩) | (go_at_call 57; refine hs.mono ?_; rintro e w' ⟨rfl, rfl⟩))
  go_quiet (fail)
  go_wp2_with fail
  go_ret2
  exact ⟨rfl, h1.drewN _, (k1.mono (by simp)).drewN _⟩

set_option maxHeartbeats 1000000 in
set_option maxRecDepth 100000 in
theorem gram_end (en n : Int) (bs : List UInt8) (ra : Option Addr) (rl rc : Nat) (h : PortAt w base b l p) (hbad : ¬ en = p.ends.length) :
    Calls Try.prog 56 #[.pointer (some ⟨b, 0, none⟩), evV 8 en n bs ra rl rc] w fun e w' => e = .returned (.int .i64 2) ∧ PSame w base b l p w' := by
  unfold evV
  have hX := blk_new' w 34 #[.int .i64 8, .int .i64 en, .int .i64 n, .string (strB bs), .slice ra rl rc]
  have k1 : Upd [] w (w.alloc (.cells #[.int .i64 8, .int .i64 en, .int .i64 n, .string (strB bs), .slice ra rl rc] 34)) := (Upd.refl _ _).alloc _
  have h1 := h.upd k1 (by simp)
  obtain ⟨ao, co, hvl⟩ := h.vlShape
  have b1 := h1.blk.cell (i := 1) rfl
  rw [hvl] at b1
  have x1 := hX.cell (i := 1) rfl
  have x3 := hX.cell (i := 3) rfl
  have hb : (en == (p.ends.length : Int)) = false := by simpa using hbad
  go_enter Try.func56, Try.ntmps56
  go_wp2_with fail
  go_quiet (fail)
  go_wp2_with fail
  go_ret
  exact ⟨rfl, h1.drewN _, (k1.mono (by simp)).drewN _⟩

set_option maxHeartbeats 1000000 in
set_option maxRecDepth 100000 in
theorem gram_long (n : Int) (bs : List UInt8) (ra : Option Addr) (rl rc : Nat) (h : PortAt w base b l p) (hbad : 512 < bs.length) :
    Calls Try.prog 56 #[.pointer (some ⟨b, 0, none⟩), evV 8 p.ends.length n bs ra rl rc] w fun e w' => e = .returned (.int .i64 2) ∧ PSame w base b l p w' := by
  unfold evV
  have hX := blk_new' w 34 #[.int .i64 8, .int .i64 p.ends.length, .int .i64 n, .string (strB bs), .slice ra rl rc]
  have k1 : Upd [] w (w.alloc (.cells #[.int .i64 8, .int .i64 p.ends.length, .int .i64 n, .string (strB bs), .slice ra rl rc] 34)) := (Upd.refl _ _).alloc _
  have h1 := h.upd k1 (by simp)
  obtain ⟨ao, co, hvl⟩ := h.vlShape
  have b1 := h1.blk.cell (i := 1) rfl
  rw [hvl] at b1
  have x1 := hX.cell (i := 1) rfl
  have x3 := hX.cell (i := 3) rfl
  have hz : (strB bs).size = bs.length := rfl
  have hd : decide (512 < bs.length) = true := decide_eq_true hbad
  have hd' : decide ((512 : Int) < (bs.length : Int)) = true := decide_eq_true (by omega)
  go_enter Try.func56, Try.ntmps56
  go_wp2_with fail
  go_quiet (fail)
  go_wp2_with fail
  go_ret
  exact ⟨rfl, h1.drewN _, (k1.mono (by simp)).drewN _⟩

theorem Try.infoBytes : (Try.prog.info? 35).map (fun i => (i.zero, i.size, i.bytes)) = some (some (.slice none 0 0), 1, 24) := by kernel_rfl

set_option maxHeartbeats 1000000 in
set_option maxRecDepth 100000 in
/-- A datagram that is taken (what it leaves of the box is not told here). -/
theorem gram_weak (n : Int) (bs : List UInt8) (ra : Option Addr) (rl rc : Nat) (h : PortAt w base b l p) (hbl : bs.length ≤ 512) (hbx : p.box.length < 8) :
    Calls Try.prog 56 #[.pointer (some ⟨b, 0, none⟩), evV 8 p.ends.length n bs ra rl rc] w fun e w' => e = .returned (.int .i64 0) ∧ Upd l.foot w w' := by
  unfold evV
  have hX := blk_new' w 34 #[.int .i64 8, .int .i64 p.ends.length, .int .i64 n, .string (strB bs), .slice ra rl rc]
  have k1 : Upd [] w (w.alloc (.cells #[.int .i64 8, .int .i64 p.ends.length, .int .i64 n, .string (strB bs), .slice ra rl rc] 34)) := (Upd.refl _ _).alloc _
  have h1 := h.upd k1 (by simp)
  obtain ⟨ao, co, hvl⟩ := h.vlShape
  obtain ⟨ys, hbo, _⟩ := h.box
  obtain ⟨bo, bc, hvb⟩ := hbo.shape
  have b1 := h1.blk.cell (i := 1) rfl
  have b2 := h1.blk.cell (i := 2) rfl
  rw [hvl] at b1
  rw [hvb] at b2
  have x1 := hX.cell (i := 1) rfl
  have x3 := hX.cell (i := 3) rfl
  have hz : (strB bs).size = bs.length := rfl
  have hd : decide (512 < bs.length) = false := decide_eq_false (by omega)
  have hd' : decide ((512 : Int) < (bs.length : Int)) = false := decide_eq_false (by omega)
  have hXb : w.heap.size ≠ b := by have := h.blk.lt; omega
  have hfw : ∀ q, l.vb.ownBlock = some q → q ≠ w.heap.size := fun q hq => by have := (hbo.lt q hq).2; omega
  go_enter Try.func56, Try.ntmps56
  go_wp2_with fail
  go_quiet (fail)
  go_wp2_with fail
  have h2 : PortAt ((w.alloc (.cells #[.int .i64 8, .int .i64 p.ends.length, .int .i64 n, .string (strB bs), .slice ra rl rc] 34)).drewN nq).drew base b l p := (h1.drewN nq).drewN 1
  have k2 : Upd [] w ((w.alloc (.cells #[.int .i64 8, .int .i64 p.ends.length, .int .i64 n, .string (strB bs), .slice ra rl rc] 34)).drewN nq).drew := (k1.drewN nq).drew
  obtain ⟨C, hC⟩ : ∃ C : World → Prop, C = fun w' => w'.cell? ⟨b, 2, none⟩ = some (.slice bo p.box.length bc) ∧ w'.cell? ⟨w.heap.size, 3, none⟩ = some (.string (strB bs)) := ⟨_, rfl⟩
  have hCo : ∀ w', C w' → w'.cell? ⟨b, 2, none⟩ = some (.slice bo p.box.length bc) ∧ w'.cell? ⟨w.heap.size, 3, none⟩ = some (.string (strB bs)) := fun w' h => by rw [hC] at h; exact h
  have hCi : ∀ w', w'.cell? ⟨b, 2, none⟩ = some (.slice bo p.box.length bc) → w'.cell? ⟨w.heap.size, 3, none⟩ = some (.string (strB bs)) → C w' := fun w' h1 h2 => by rw [hC]; exact ⟨h1, h2⟩
  have hC0 : C ((w.alloc (.cells #[.int .i64 8, .int .i64 p.ends.length, .int .i64 n, .string (strB bs), .slice ra rl rc] 34)).drewN nq).drew := hCi _ b2 x3
  have cc1 : ∀ x : { w' // C w' }, x.1.cell? ⟨b, 2, none⟩ = some (.slice bo p.box.length bc) := fun y => by obtain ⟨y, h⟩ := y; exact (hCo _ h).1
  have cc2 : ∀ y : { w' // C w' }, y.1.cell? ⟨w.heap.size, 3, none⟩ = some (.string (strB bs)) := fun y => by obtain ⟨y, h⟩ := y; exact (hCo _ h).2
  haveI : Nonempty { w' // C w' } := ⟨⟨_, hC0⟩⟩
  refine wp_region_fxl C [7, 8, 9] [12] [4, 6] rfl (by kernel_rfl) hC0 (fun M => ?_)
  clear h1 k1 hX x1 x3 b1 b2
  generalize hW : ((w.alloc (.cells #[.int .i64 8, .int .i64 p.ends.length, .int .i64 n, .string (strB bs), .slice ra rl rc] 34)).drewN nq).drew = w2 at *
  refine wpFx_pure rfl (fun K hK => ?_); go_simp; refine hK _ ?_; clear hK K
  refine wpFx_pure rfl (fun K hK => ?_); go_simp; refine hK _ ?_; clear hK K
  refine wpFx_pure rfl (fun K hK => ?_); go_simp; refine hK _ ?_; clear hK K
  refine wpFx_pure rfl (fun K hK => ?_); go_simp; refine hK _ ?_; clear hK K
  refine wpFx_load rfl rfl (fun K hK => ?_); go_simp; refine hK _ ?_; clear hK K
  refine wpFx_pure rfl (fun K hK => ?_); go_simp; refine hK _ ?_; clear hK K
  refine wpFx_load rfl rfl (fun K hK => ?_); go_simp; refine hK _ ?_; clear hK K
  obtain ⟨cc, w3, hcv, hrd, hku⟩ := conv_bytes w2 bs (by omega)
  have kk : ∀ {u v : World}, C u → Upd [] u v → C v := fun hu hv => hCi _ (by rw [hv.cell (World.block_lt_of_cell? _ _ (hCo _ hu).1) (by simp)]; exact (hCo _ hu).1) (by rw [hv.cell (World.block_lt_of_cell? _ _ (hCo _ hu).2) (by simp)]; exact (hCo _ hu).2)
  refine wpFx_es rfl rfl (fun K hK => ?_); go_simp
  have hC3 := kk hC0 hku
  refine hK _ _ hC3 ?_; clear hK K
  have h3 := h2.upd hku (by simp)
  have k3 := k2.trans_same hku
  generalize w2.heap.size = Y at *
  clear hcv h2 k2 hku hC0
  refine wpFx_es rfl rfl (fun K hK => ?_); go_simp
  have k4 : Upd [] w3 (w3.alloc (.cells #[.slice (some ⟨Y, 0, none⟩) bs.length cc] 35)) := (Upd.refl _ _).alloc _
  have hN := blk_new' w3 35 #[.slice (some ⟨Y, 0, none⟩) bs.length cc]
  have hC4 := kk hC3 k4
  refine hK _ _ hC4 ?_; clear hK K
  have h4 := h3.upd k4 (by simp)
  have k5 := k3.trans_same k4
  obtain ⟨ys4, hbo4, _⟩ := h4.box
  rw [hvb] at hbo4
  have hbs4 : base ≤ (w3.alloc (.cells #[.slice (some ⟨Y, 0, none⟩) bs.length cc] 35)).heap.size := by have := h4.blk.lt; have := h4.tb.1; omega
  clear h3 k3 hC3 k4
  refine wpFx_es rfl rfl (fun K hK => ?_)
  with_reducible refine wp_append_genE (.tmp 31) (.tmp 35) 93 93 rfl 35 (.slice none 0 0) 1 24 Try.underlying93 Try.infoBytes rfl base ?a1 (.slice bo p.box.length bc) p.box.length ys4 rfl ?a2 _ 1 [.slice (some ⟨Y, 0, none⟩) bs.length cc] rfl ?a3 ?a4 ?a5 (by decide) ?a6
  case a1 => exact hbs4
  case a2 => exact hbo4
  case a3 => exact Src.ofSlice _ Try.underlying93 ⟨_, 0, none⟩ _ _ _ (by simp) (fun j u hj => by rw [addr_add, Nat.zero_add]; exact hN.cell hj) (by intro u hu; simp at hu; subst hu; rfl)
  case a4 => unfold maxLen; omega
  case a5 => omega
  case a6 =>
    intro v' w5 hown5 hU5 hblk5
    have hnb : b ∉ (Value.slice bo p.box.length bc).ownBlock.toList := fun hq => (h4.tx b (by rw [hvb]; exact mem_ownP hq)).ne h4.tb (by decide) rfl
    have hnX : w.heap.size ∉ (Value.slice bo p.box.length bc).ownBlock.toList := fun hq => hfw _ (by rw [hvb]; exact mem_ownP hq) rfl
    have hb5 := h4.blk.upd hU5 hnb
    have cb := hb5.cell (i := 2) rfl
    have cf := hb5.frozen 2
    rw [hvb] at cb
    refine hK _ _ (hCi _ cb (by rw [hU5.cell (World.block_lt_of_cell? _ _ (hCo _ hC4).2) hnX]; exact (hCo _ hC4).2)) ?_
    clear hK K
    obtain ⟨ao', co', rfl⟩ := hown5.shape
    have hfin : Upd l.foot w w5 := (k5.mono (by simp)).trans_same (hU5.mono (fun q hq => (h4.tx q (by rw [hvb]; exact mem_ownP hq)).2.2))
    clear hown5 hU5 hblk5 hnb hnX
    go_simp
    refine wpFx_pure rfl (fun K hK => ?_); go_simp; refine hK _ ?_; clear hK K
    refine wpFx_pure rfl (fun K hK => ?_); go_simp; refine hK _ ?_; clear hK K
    refine wpFx_et rfl rfl rfl (fun K hK => ?_); go_simp
    refine hK _ _ ?_; clear hK K
    refine wpFx_nil ?_
    go_wp2_with fail
    go_ret
    exact ⟨rfl, hfin.setCell (Or.inl h4.tb.2.2) _⟩

set_option maxHeartbeats 1000000 in
set_option maxRecDepth 100000 in
theorem ev_gram (en n : Int) (bs : List UInt8) (ra : Option Addr) (rl rc : Nat) (c : Nat) (S : World → World → Prop) (h : PortAt w base b l p)
    (hg : ∀ w1, Upd [] w w1 → Calls Try.prog 56 #[.pointer (some ⟨b, 0, none⟩), evV 8 en n bs ra rl rc] w1 fun e w' => e = .returned (.int .i64 c) ∧ S w1 w') :
    Calls Try.prog 17 #[.pointer (some ⟨b, 0, none⟩), evV 8 en n bs ra rl rc] w fun e w' => e = .returned (.tuple #[.int .i64 0, .int .i64 c]) ∧ ∃ w1, Upd [] w w1 ∧ S w1 w' := by
  unfold evV at *
  have hX := blk_new' w 34 #[.int .i64 8, .int .i64 en, .int .i64 n, .string (strB bs), .slice ra rl rc]
  have k1 : Upd [] w (w.alloc (.cells #[.int .i64 8, .int .i64 en, .int .i64 n, .string (strB bs), .slice ra rl rc] 34)) := (Upd.refl _ _).alloc _
  have h1 := h.upd k1 (by simp)
  have his := pt_is h1
  have x0 := hX.cell (i := 0) rfl
  have x1 := hX.cell (i := 1) rfl
  have x2 := hX.cell (i := 2) rfl
  have x3 := hX.cell (i := 3) rfl
  have x4 := hX.cell (i := 4) rfl
  have hgg := hg _ k1
  go_enter Try.func17, Try.ntmps17
  go_wp2_with (first | (go_at_call 55; refine his.mono ?_; rintro e w' ⟨rfl, rfl⟩))
  refine hgg.mono ?_
  rintro e w2 ⟨rfl, hS⟩
  go_wp2_with fail
  go_ret2
  exact ⟨rfl, _, k1, hS⟩

/-! ### Used, Gram -/

def PortM.usedTo (p : PortM) : Nat → Nat
  | 0 => 0
  | k + 1 => p.usedTo k + (match p.ends[k]? with | some x => x.xs.length | none => 0)
def PortM.used (p : PortM) : Nat := p.usedTo p.ends.length

set_option maxHeartbeats 1000000 in
set_option maxRecDepth 100000 in
theorem pt_used (h : PortAt w base b l p) : Calls Try.prog 30 #[.pointer (some ⟨b, 0, none⟩)] w fun e w' => e = .returned (.int .i64 (p.used : Nat)) ∧ w = w' := by
  have his := pt_is h
  have b1 := h.blk.cell (i := 1) rfl
  have hsm := h.small
  obtain ⟨ao, co, hvl⟩ := h.vlShape
  rw [hvl] at b1
  have hbound : ∀ k, k ≤ p.ends.length → p.usedTo k ≤ k * 65536 := by
    intro k hk
    induction k with
    | zero => exact Nat.le_refl _
    | succ k ih =>
      have hx : p.ends[k]? = some p.ends[k] := List.getElem?_eq_getElem (by omega)
      have := (h.rings k _ hx).fit
      have := ih (by omega)
      rw [PortM.usedTo, hx]
      show _ + p.ends[k].xs.length ≤ _
      omega
  go_enter Try.func30, Try.ntmps30
  go_wp2_with (go_at_call 55; refine his.mono ?_; rintro e w' ⟨rfl, rfl⟩)
  go_loopw [3, 12] (fun a i wr => ∃ k : Nat, k ≤ p.ends.length ∧ i = .int .i64 k ∧ a = .int .i64 (p.usedTo k : Nat) ∧ wr = w) (fun _ i _ => p.ends.length - (intOf i).toNat)
  case atStart => exact ⟨0, Nat.zero_le _, rfl, rfl, rfl⟩
  case round =>
    obtain ⟨k, hk, rfl, rfl, rfl⟩ := hrel
    by_cases hlt : k < p.ends.length
    · obtain ⟨x, hx⟩ : ∃ x, p.ends[k]? = some x := ⟨p.ends[k], List.getElem?_eq_getElem hlt⟩
      obtain ⟨g, off, cap, hv, hg, _⟩ := h.cells hx
      rw [hvl] at hv
      cases hv
      obtain ⟨c0, _⟩ := h.cellsAt hx hvl
      have eadd : (⟨g, off, none⟩ : Addr).add (k * 6) = ⟨g, off + k * 6, none⟩ := addr_add _ _ _
      have hr := rh_len (h.rings k x hx)
      have hb1 := hbound (k + 1) hlt
      have hu : p.usedTo (k + 1) = p.usedTo k + x.xs.length := by rw [PortM.usedTo, hx]
      have ew : IntKind.i64.wrap ((p.usedTo k : Int) + (x.xs.length : Int)) = (p.usedTo k : Int) + (x.xs.length : Int) := IntWalk.i64_in _ (by omega)
      have Hu := Lib.hid hu
      clear hu hb1 hbound
      go_wp2_with fail
      refine hr.mono ?_
      rintro e w' ⟨rfl, rfl⟩
      go_wp2_with fail
      go_roundw
      case rel => exact ⟨k + 1, hlt, by go_num, by rw [Hu.out]; rfl, by first | rfl | trivial⟩
      case measure => simp [intOf]; omega
    · obtain rfl : k = p.ends.length := by omega
      go_wp2_with fail
      go_ret
      exact ⟨rfl, rfl⟩

theorem pt_gram_none (h : PortAt w base b l p) (hb : p.box = []) : Calls Try.prog 29 #[.pointer (some ⟨b, 0, none⟩)] w fun e w' => e = .returned (.tuple #[.slice none 0 0, .int .i64 5]) ∧ w = w' := by
  have his := pt_is h
  obtain ⟨ys, hbo, _⟩ := h.box
  obtain ⟨bo, bc, hvb⟩ := hbo.shape
  have b2 := h.blk.cell (i := 2) rfl
  rw [hvb, hb] at b2
  go_enter Try.func29, Try.ntmps29
  go_wp2_with (go_at_call 55; refine his.mono ?_; rintro e w' ⟨rfl, rfl⟩)
  go_ret2
  exact ⟨rfl, rfl⟩
end

end Go.Proofs.Ytnbhgfnjnccakaa
