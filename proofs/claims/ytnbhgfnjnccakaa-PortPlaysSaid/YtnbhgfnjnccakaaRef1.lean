/- The document's ring (sallyportref01): a list of bytes; the walks of its calls New, Put, Peek, Take, Clone. It answers by the same plain model as the ring. -/
import Derived.Test.YtnbhgfnjnccakaaPBase
import Derived.Test.YtnbhgfnjnccakaaFx
namespace Go.Proofs.Ytnbhgfnjnccakaa
open Go Go.RowKit
set_option linter.unusedVariables false

/-- The document's ring r lies at block c, its bytes are the slice v, of the call's own. -/
structure RefAt (w : World) (base c : Nat) (v : Value) (r : RingM) : Prop where
  blk : Blk w c 130 [.int .i64 r.size, v, .int .i64 r.i, .int .i64 r.o]
  own : Own w base 5 1 v r.xs.length (r.xs.map byteV)
  ap : ∀ q, v.ownBlock = some q → q ≠ c
  base : base ≤ c
  fit : r.xs.length ≤ r.size
  small : r.size ≤ 65536
  i : r.i < 4294967296
  o : r.o < 4294967296

section
variable {w w1 : World} {base c : Nat} {v : Value} {r : RingM}
theorem RefAt.upd {F : List Nat} (h : RefAt w base c v r) (hu : Upd F w w1) (hc : c ∉ F) (hv : ∀ q, v.ownBlock = some q → q ∉ F) : RefAt w1 base c v r :=
  { h with blk := h.blk.upd hu hc, own := h.own.upd hu hv }
theorem RefAt.lt (h : RefAt w base c v r) : c < w.heap.size := h.blk.lt
theorem RefAt.vlt (h : RefAt w base c v r) : ∀ q, v.ownBlock = some q → base ≤ q ∧ q < w.heap.size := h.own.lt
theorem RefAt.rd (h : RefAt w base c v r) : Rd w v r.xs := h.own.rd
end

theorem mem_ownB {v : Value} {q : Nat} (h : q ∈ v.ownBlock.toList) : v.ownBlock = some q := by
  cases hv : v.ownBlock with
  | none => rw [hv] at h; cases h
  | some x => rw [hv] at h; simp at h; rw [h]

/-- A ring with more bytes in it. -/
def RingM.add (r : RingM) (bs : List UInt8) : RingM := { r with xs := r.xs ++ bs }
theorem RingM.add_size (r : RingM) (bs : List UInt8) : (r.add bs).size = r.size := rfl
theorem RingM.add_i (r : RingM) (bs : List UInt8) : (r.add bs).i = r.i := rfl
theorem RingM.add_o (r : RingM) (bs : List UInt8) : (r.add bs).o = r.o := rfl
theorem RingM.add_xs (r : RingM) (bs : List UInt8) : (r.add bs).xs = r.xs ++ bs := rfl

/-- What a call at the document's ring leaves. -/
def RefPost (w : World) (base c : Nat) (v : Value) (r' : RingM) (w' : World) : Prop :=
  ∃ v', RefAt w' base c v' r' ∧ (∀ q, v'.ownBlock = some q → v.ownBlock = some q ∨ w.heap.size ≤ q) ∧ Upd (c :: v.ownBlock.toList) w w'

/-! ### New -/

theorem ref_new (n : Int) (w : World) (h0 : 0 ≤ n) (hn : n ≤ 65536) :
    Calls Try.prog 90 #[.int .i64 n] w fun e w' => e = .returned (.tuple #[.pointer (some ⟨w.heap.size, 0, none⟩), .int .i64 0]) ∧ RefAt w' w.heap.size w.heap.size (.slice none 0 0) (RingM.new n.toNat) ∧ Upd [] w w' := by
  obtain ⟨n, rfl⟩ := Int.eq_ofNat_of_zero_le h0
  rw [Int.toNat_natCast]
  have hn : n ≤ 65536 := by omega
  go_enter Try.func90, Try.ntmps90
  go_wp2
  go_ret2
  refine ⟨rfl, ⟨?_, own_nil _ _ _ _, (fun q hq => by cases hq), Nat.le_refl _, Nat.zero_le _, hn, by simp [RingM.new], by simp [RingM.new]⟩, (Upd.refl _ _).alloc _⟩
  exact blk_new w 130 [.int .i64 n, .slice none 0 0, .int .i64 0, .int .i64 0]

theorem ref_new_bad (n : Int) (w : World) (h : n < 0 ∨ 65536 < n) :
    Calls Try.prog 90 #[.int .i64 n] w fun e w' => e = .returned (.tuple #[.pointer none, .int .i64 2]) ∧ w = w' := by
  rcases h with h | h
  · go_enter Try.func90, Try.ntmps90
    go_wp2
    go_ret2
    exact ⟨rfl, rfl⟩
  · have h' : ¬ n < 0 := by omega
    go_enter Try.func90, Try.ntmps90
    go_wp2
    go_ret2
    exact ⟨rfl, rfl⟩

/-! ### Put -/

set_option maxHeartbeats 1000000 in
set_option maxRecDepth 100000 in
theorem ref_put {w : World} {base c : Nat} {v : Value} {r : RingM} {u : Value} {bs : List UInt8} (h : RefAt w base c v r) (hu : Rd w u bs) (hap : bs ≠ [] → ∀ q, u.ownBlock = some q → q ≠ c ∧ v.ownBlock ≠ some q) :
    Calls Try.prog 83 #[.pointer (some ⟨c, 0, none⟩), u] w fun e w' => e = .returned (.int .i64 (r.putN bs : Nat)) ∧ RefPost w base c v (r.put bs) w' := by
  obtain ⟨au, cu, rfl, hl1, hl2, hnil, hcells⟩ := hu
  go_enter Try.func83, Try.ntmps83
  go_wp2_with fail
  go_loopw [5] (fun i wr => ∃ k : Nat, k ≤ bs.length ∧ k ≤ r.size - r.xs.length ∧ i = .int .i64 k ∧ RefPost w base c v (r.add (bs.take k)) wr) (fun i _ => bs.length - (intOf i).toNat)
  case atStart => exact ⟨0, Nat.zero_le _, Nat.zero_le _, rfl, v, by simpa [RingM.add] using h, fun q hq => Or.inl hq, Upd.refl _ _⟩
  case round =>
    obtain ⟨k, hk, hks, rfl, v', hR, hg, hU⟩ := hrel
    have hx : (r.add (bs.take k)).xs.length = r.xs.length + k := by rw [RingM.add_xs, List.length_append, List.length_take]; omega
    have hfit := h.fit
    have hsm := h.small
    have hcl := h.lt
    have hbase := h.base
    obtain ⟨ao, co, rfl⟩ := hR.own.shape
    have hR' := hR
    have c1 := hR.blk.cell (i := 1) rfl
    have c0 := hR.blk.cell (i := 0) rfl
    have c2 := hR.blk.cell (i := 2) rfl
    rw [RingM.add_size] at c0
    rw [RingM.add_i] at c2
    rw [hx] at c1 hg
    have hown := hR.own
    have hap1 := hR.ap
    have hvl := hR.vlt
    have hbl := hR.blk
    rw [hx] at hown hap1 hvl hbl
    have hsz := hU.size
    clear hR
    by_cases hlt : k < bs.length
    · by_cases hrm : r.xs.length + k < r.size
      · go_wp2_with fail
        go_quiet (fail)
        go_wp2_with fail
        obtain ⟨ad, rfl⟩ : ∃ ad, au = some ad := by
          cases au with
          | none => have := hnil rfl; omega
          | some ad => exact ⟨ad, rfl⟩
        obtain ⟨hsp, hcs⟩ := hcells ad rfl
        have hne : bs ≠ [] := by intro e; subst e; simp at hlt
        obtain ⟨gb, og, sp⟩ := ad
        have hsp := hsp hne
        simp only at hsp hcs
        subst hsp
        have hx0 := hcs k (byteV bs[k]) (by simp [hlt])
        have hxl := World.block_lt_of_cell? w _ hx0
        have hgb := hap hne gb rfl
        have hx1 : wr.cell? ⟨gb, og + k, none⟩ = some (byteV bs[k]) := by
          rw [hU.cell hxl (by simp; exact hgb)]; exact hx0
        have htk : bs.take (k + 1) = bs.take k ++ [bs[k]] := by rw [List.take_append_getElem]
        have hadd : (r.add (bs.take k)).add [bs[k]] = r.add (bs.take (k + 1)) := by rw [htk]; simp [RingM.add]
        generalize bs[k] = x at *
        obtain ⟨xi, hxi⟩ : ∃ xi, byteV x = .int .u8 xi := ⟨_, rfl⟩
        have Hxi := Lib.hid hxi
        rw [hxi] at hx1
        clear hx0 hxi
        have eadd : (⟨gb, og, none⟩ : Addr).add k = ⟨gb, og + k, none⟩ := addr_add _ _ _
        have hk64 : IntKind.i64.wrap ((k : Int) + 1) = ((k + 1 : Nat) : Int) := by rw [IntWalk.i64_in _ (by omega)]; omega
        obtain ⟨C, hC⟩ : ∃ C : World → Prop, C = fun w' => w'.cell? ⟨c, 1, none⟩ = some (.slice ao (r.xs.length + k) co) ∧ w'.cell? ⟨gb, og + k, none⟩ = some (.int .u8 xi) := ⟨_, rfl⟩
        have hCi : ∀ w', w'.cell? ⟨c, 1, none⟩ = some (.slice ao (r.xs.length + k) co) → w'.cell? ⟨gb, og + k, none⟩ = some (.int .u8 xi) → C w' := fun w' h1 h2 => by rw [hC]; exact ⟨h1, h2⟩
        have hC0 : C (wr.drewN nq).drew := hCi _ c1 hx1
        have cc1 : ∀ x : { w' // C w' }, x.1.cell? ⟨c, 1, none⟩ = some (.slice ao (r.xs.length + k) co) := fun y => by obtain ⟨y, h⟩ := y; rw [hC] at h; exact h.1
        have cc2 : ∀ y : { w' // C w' }, y.1.cell? ⟨gb, og + k, none⟩ = some (.int .u8 xi) := fun y => by obtain ⟨y, h⟩ := y; rw [hC] at h; exact h.2
        haveI : Nonempty { w' // C w' } := ⟨⟨_, hC0⟩⟩
        refine wp_region_fxl C [9, 10] [13] [4, 8] rfl (by kernel_rfl) hC0 (fun M => ?_)
        refine wpFx_pure rfl (fun K hK => ?_); go_simp; refine hK _ ?_; clear hK K
        refine wpFx_pure rfl (fun K hK => ?_); go_simp; refine hK _ ?_; clear hK K
        refine wpFx_pure rfl (fun K hK => ?_); go_simp; refine hK _ ?_; clear hK K
        refine wpFx_pure rfl (fun K hK => ?_); go_simp; refine hK _ ?_; clear hK K
        refine wpFx_load rfl rfl (fun K hK => ?_); go_simp; refine hK _ ?_; clear hK K
        refine wpFx_pure rfl (fun K hK => ?_); go_simp; refine hK _ ?_; clear hK K
        refine wpFx_pure rfl (fun K hK => ?_); go_simp; refine hK _ ?_; clear hK K
        refine wpFx_pure rfl (fun K hK => ?_); go_simp; refine hK _ ?_; clear hK K
        refine wpFx_load rfl rfl (fun K hK => ?_); go_simp; refine hK _ ?_; clear hK K
        refine wpFx_es rfl rfl (fun K hK => ?_); go_simp
        have hU1 : Upd [] wr ((wr.drewN (nq + 1)).alloc (.cells #[.int .u8 xi] 5)) := ((Upd.refl _ _).drewN _).alloc _
        have hN1 := blk_new' (wr.drewN (nq + 1)) 5 #[.int .u8 xi]
        refine hK _ _ (hCi _ ?_ ?_) ?_
        · rw [hU1.cell (a := ⟨c, 1, none⟩) hbl.lt (by simp)]; exact c1
        · rw [hU1.cell (World.block_lt_of_cell? _ _ hx1) (by simp)]; exact hx1
        clear hK K
        have hbl1 := hbl.upd hU1 (by simp)
        have hown1 := hown.upd hU1 (by simp)
        have hs1 := hU1.size
        have hwl := hbl.lt
        rw [show (wr.drewN (nq + 1)).heap.size = wr.heap.size from rfl] at *
        generalize (wr.drewN (nq + 1)).alloc (.cells #[.int .u8 xi] 5) = w1 at *
        refine wpFx_es rfl rfl (fun K hK => ?_)
        with_reducible refine wp_append_gen (.tmp 26) (.tmp 31) 35 35 rfl 5 (.int .u8 0) 1 1 Try.underlying35 Try.info5 rfl base ?a1 (.slice ao (r.xs.length + k) co) (r.xs.length + k) ((r.add (bs.take k)).xs.map byteV) rfl ?a2 _ 1 [.int .u8 xi] rfl ?a3 ?a4 ?a5 ?a6
        case a1 => have := hbl1.lt; omega
        case a2 => exact hown1
        case a3 => exact Src.ofSlice _ Try.underlying35 ⟨wr.heap.size, 0, none⟩ _ _ _ (by simp) (fun j u hj => by rw [addr_add, Nat.zero_add]; exact hN1.cell hj) (by rw [← Hxi.out]; exact bytesV_one [x])
        case a4 => unfold maxLen; omega
        case a5 => omega
        case a6 =>
          intro v2 w2 hown2 hU2 hblk2 hnil2 hoff2
          obtain ⟨ao2, co2, rfl⟩ := hown2.shape
          clear hnil2 hoff2
          have hcn : c ∉ (Value.slice ao (r.xs.length + k) co).ownBlock.toList := fun hq => hap1 c (mem_ownB hq) rfl
          have hgn : gb ∉ (Value.slice ao (r.xs.length + k) co).ownBlock.toList := fun hq => by
            rcases hg gb (mem_ownB hq) with h | h
            · exact hgb.2 h
            · exact absurd hxl (Nat.not_lt.2 h)
          refine hK _ _ (hCi _ ?_ ?_) ?_
          · rw [hU2.cell (a := ⟨c, 1, none⟩) hbl1.lt hcn, hU1.cell (a := ⟨c, 1, none⟩) hbl.lt (by simp)]; exact c1
          · rw [hU2.cell (a := ⟨gb, og + k, none⟩) (Nat.lt_of_lt_of_le (World.block_lt_of_cell? _ _ hx1) hs1) hgn, hU1.cell (World.block_lt_of_cell? _ _ hx1) (by simp)]; exact hx1
          clear hK K
          have hbl2 := hbl1.upd hU2 hcn
          have hc2 := hbl2.cell (i := 1) rfl
          have hf2 := hbl2.frozen 1
          go_simp
          refine wpFx_pure rfl (fun K hK => ?_); go_simp; refine hK _ ?_; clear hK K
          refine wpFx_pure rfl (fun K hK => ?_); go_simp; refine hK _ ?_; clear hK K
          refine wpFx_et rfl rfl rfl (fun K hK => ?_); go_simp
          refine hK _ _ ?_; clear hK K
          refine wpFx_nil ?_
          have hown3 : Own w2 base 5 1 (.slice ao2 (r.xs.length + k + 1) co2) (r.add (bs.take (k + 1))).xs.length ((r.add (bs.take (k + 1))).xs.map byteV) := by
            rw [← hadd, RingM.add_xs, List.map_append, List.length_append, List.map_cons, List.map_nil, Hxi.out, hx]
            exact hown2
          have hst : RefPost w base c v (r.add (bs.take (k + 1))) (w2.setCell ⟨c, 1, none⟩ (.slice ao2 (r.xs.length + k + 1) co2)) := by
            have hap2 : ∀ q, (Value.slice ao2 (r.xs.length + k + 1) co2).ownBlock = some q → q ≠ c := fun q hq => by
              rcases hblk2 q hq with h | h
              · exact hap1 q h
              · have := hbl1.lt; omega
            refine ⟨_, ⟨hbl2.set 1 _, hown3.upd ((Upd.refl [c] _).setCell (Or.inl (by simp)) _) (fun q hq => by simp; exact hap2 q hq), hap2, hbase, ?_, hsm, hR'.i, hR'.o⟩, fun q hq => ?_, ?_⟩
            · rw [RingM.add_xs, List.length_append, List.length_take, RingM.add_size]; omega
            · rcases hblk2 q hq with h | h
              · exact hg q h
              · right; omega
            · refine (hU.trans_same (hU1.mono (by simp))).trans (fun q hq => ?_) hU2 |>.setCell (Or.inl (by simp)) _
              rcases hg q (mem_ownB hq) with h | h
              · left; simp [h]
              · right; exact h
          clear hown3 hown2 hU2 hblk2 hbl2 hc2 hf2 hcn hgn hbl1 hown1 hN1 hU1 hx1 cc1 cc2 hC0 hCi hC hxl hcs hcells hgb hbl hown hap1 hvl hR' c0 c1 c2
          go_wp2_with fail
          go_roundw
          case rel => exact ⟨k + 1, hlt, by omega, by go_num, hst⟩
          case measure => simp [intOf]; omega
      · have hkk : k = r.putN bs := by unfold RingM.putN; omega
        have hrm' : ¬ (r.xs.length : Int) + (k : Int) < (r.size : Int) := by omega
        have Hkk := Lib.hid hkk
        have e1 : IntKind.i64.wrap ((r.i : Int) + (k : Int)) = ((r.i + k : Nat) : Int) := by rw [IntWalk.i64_in _ (by have := h.i; omega)]; omega
        have e2 : Int.tmod ((r.i : Int) + (k : Int)) 4294967296 = (((r.i + k) % 4294967296 : Nat) : Int) := rfl
        have hmod : (r.i + k) % 4294967296 < 4294967296 := Nat.mod_lt _ (by decide)
        have hput : r.put bs = { r.add (bs.take k) with i := (r.i + k) % 4294967296 } := by rw [hkk]; rfl
        have hown' := hR'.own
        have hlen : (r.add (bs.take k)).xs.length ≤ r.size := by rw [hx]; omega
        have Hput := Lib.hid hput
        have hap := hR'.ap
        clear hkk hown hvl hap1 hput
        generalize (r.i + k) % 4294967296 = i' at *
        go_wp2_with fail
        go_quiet (fail)
        have hbq : Blk (wr.drewN nq) c 130 _ := hbl
        have f2 := hbq.frozen 2
        have c2' := hbq.cell (i := 2) rfl
        rw [RingM.add_i] at c2'
        have hUq : Upd (c :: v.ownBlock.toList) w (wr.drewN nq) := hU.drewN _
        have hownq : Own (wr.drewN nq) base 5 1 _ _ _ := hown'
        clear hU hbl c0 c1 c2
        generalize wr.drewN nq = w1 at *
        go_wp2_with fail
        go_ret
        refine ⟨by rw [← Hkk.out]; rfl, (.slice ao (r.add (bs.take k)).xs.length co), ?_, by rw [hx]; exact hg, hUq.setCell (a := ⟨c, 2, none⟩) (Or.inl (by simp)) _⟩
        rw [Hput.out]
        refine ⟨(hbq.set 2 _).eq ?_, hownq.upd ((Upd.refl [c] _).setCell (a := ⟨c, 2, none⟩) (Or.inl (by simp)) _) (fun q hq => by simp; exact hap q hq), hap, hbase, hlen, hsm, hmod, hR'.o⟩
        simp [hx]
    · have hkk : k = r.putN bs := by unfold RingM.putN; omega
      have Hkk := Lib.hid hkk
      have e1 : IntKind.i64.wrap ((r.i : Int) + (k : Int)) = ((r.i + k : Nat) : Int) := by rw [IntWalk.i64_in _ (by have := h.i; omega)]; omega
      have e2 : Int.tmod ((r.i : Int) + (k : Int)) 4294967296 = (((r.i + k) % 4294967296 : Nat) : Int) := rfl
      have hmod : (r.i + k) % 4294967296 < 4294967296 := Nat.mod_lt _ (by decide)
      have hput : r.put bs = { r.add (bs.take k) with i := (r.i + k) % 4294967296 } := by rw [hkk]; rfl
      have hown' := hR'.own
      have hlen : (r.add (bs.take k)).xs.length ≤ r.size := by rw [hx]; omega
      have Hput := Lib.hid hput
      have hap := hR'.ap
      clear hkk hown hvl hap1 hput
      generalize (r.i + k) % 4294967296 = i' at *
      go_wp2_with fail
      go_quiet (fail)
      have hbq : Blk (wr.drewN nq) c 130 _ := hbl
      have f2 := hbq.frozen 2
      have c2' := hbq.cell (i := 2) rfl
      rw [RingM.add_i] at c2'
      have hUq : Upd (c :: v.ownBlock.toList) w (wr.drewN nq) := hU.drewN _
      have hownq : Own (wr.drewN nq) base 5 1 _ _ _ := hown'
      clear hU hbl c0 c1 c2
      generalize wr.drewN nq = w1 at *
      go_wp2_with fail
      go_ret
      refine ⟨by rw [← Hkk.out]; rfl, (.slice ao (r.add (bs.take k)).xs.length co), ?_, by rw [hx]; exact hg, hUq.setCell (a := ⟨c, 2, none⟩) (Or.inl (by simp)) _⟩
      rw [Hput.out]
      refine ⟨(hbq.set 2 _).eq ?_, hownq.upd ((Upd.refl [c] _).setCell (a := ⟨c, 2, none⟩) (Or.inl (by simp)) _) (fun q hq => by simp; exact hap q hq), hap, hbase, hlen, hsm, hmod, hR'.o⟩
      simp [hx]

end Go.Proofs.Ytnbhgfnjnccakaa
