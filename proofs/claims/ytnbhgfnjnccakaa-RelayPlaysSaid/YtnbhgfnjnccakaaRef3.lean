/- The document's ring's Take once more: what it hands on lies apart from what it keeps. -/
import Derived.Test.YtnbhgfnjnccakaaRef2
namespace Go.Proofs.Ytnbhgfnjnccakaa
open Go Go.RowKit
set_option linter.unusedVariables false

/-- What Take leaves: what it hands on, and the ring. -/
def RefTakePost2 (w : World) (base c : Nat) (v : Value) (r' : RingM) (ys : List UInt8) (e : Ending) (w' : World) : Prop :=
  ∃ u w1 v', e = .returned u ∧ Upd [] w w1 ∧ Own w1 w.heap.size 5 1 u ys.length (ys.map byteV) ∧ RefAt w' base c v' r' ∧ (∀ q, v'.ownBlock = some q → w1.heap.size ≤ q) ∧ Upd [c] w1 w'

set_option maxHeartbeats 1000000 in
set_option maxRecDepth 100000 in
theorem ref_take2 {w : World} {base c : Nat} {v : Value} {r : RingM} (n : Int) (h : RefAt w base c v r) :
    Calls Try.prog 91 #[.pointer (some ⟨c, 0, none⟩), .int .i64 n] w (RefTakePost2 w base c v (r.drop n) (r.peek n)) := by
  have hp := ref_peek n h
  have hpl := r.peek_length n
  have hcn := r.cnt_le n
  have hfit := h.fit
  have hsm := h.small
  have hlt := h.lt
  have hbase := h.base
  have hi := h.i
  have hio := h.o
  go_enter Try.func91, Try.ntmps91
  go_wp2_with fail
  refine hp.mono ?_
  rintro e w1 ⟨u, rfl, hu, hU⟩
  have hR := h.upd hU (by simp) (by simp)
  obtain ⟨au, cu, rfl⟩ := hu.shape
  obtain ⟨ab, cb, rfl⟩ := hR.own.shape
  have c1 := hR.blk.cell (i := 1) rfl
  clear hp
  rw [hpl] at hu
  have hs1 := hU.size
  have hcase : (ab = none ∧ r.xs.length = 0 ∧ cb = 0) ∨ ∃ g o, ab = some ⟨g, o, none⟩ ∧ r.xs.length ≤ cb ∧ cb ≤ maxLen := by
    rcases hR.own.2 with ⟨hv, h0⟩ | ⟨g, off, cap, pre, rest, hv, hb, hg, hpr, hre, hn, hcm⟩
    · injection hv with e1 e2 e3; exact Or.inl ⟨e1, h0, e3⟩
    · injection hv with e1 e2 e3; subst e3; exact Or.inr ⟨g, off, e1, hn, hcm⟩
  have hU1 : Upd [] w1 (w1.alloc (.cells #[] 5)) := (Upd.refl _ _).alloc _
  have hR1 := hR.upd hU1 (by simp) (by simp)
  have c1a := hR1.blk.cell (i := 1) rfl
  have hN1 : Own (w1.alloc (.cells #[] 5)) w1.heap.size 5 1 (.slice (some ⟨w1.heap.size, 0, none⟩) 0 0) 0 [] :=
    ⟨rfl, Or.inr ⟨w1.heap.size, 0, 0, [], [], rfl, Nat.le_refl _, by simpa using blk_new w1 5 [], rfl, by simp, Nat.le_refl _, by decide⟩⟩
  have hown1 := hR1.own
  have hbl1 := hR1.blk
  have hap1 := hR1.ap
  have hu1 := hu.upd hU1 (by simp)
  have hs2 : w1.heap.size ≤ (w1.alloc (.cells #[] 5)).heap.size := hU1.size
  have hul := hu.lt
  have hl1 := hR.lt
  have hdx : (r.drop n).xs = r.xs.drop (r.cnt n) := rfl
  have hdl := r.drop_len n
  have hdi : (r.drop n).i = r.i := rfl
  have hds : (r.drop n).size = r.size := rfl
  have hdo : (r.drop n).o = (r.o + r.cnt n) % 4294967296 := rfl
  have hmod : (r.o + r.cnt n) % 4294967296 < 4294967296 := Nat.mod_lt _ (by decide)
  have e1 : IntKind.i64.wrap ((r.o : Int) + (r.cnt n : Int)) = ((r.o + r.cnt n : Nat) : Int) := by rw [IntWalk.i64_in _ (by omega)]; omega
  have e2 : Int.tmod ((r.o : Int) + (r.cnt n : Int)) 4294967296 = (((r.o + r.cnt n) % 4294967296 : Nat) : Int) := rfl
  generalize ho' : (r.o + r.cnt n) % 4294967296 = o' at *
  have Ho' := Lib.hid ho'
  clear ho'
  generalize r.drop n = r' at *
  generalize r.peek n = ys at *
  generalize r.cnt n = k at *
  subst hpl
  clear hR hR1 c1 h
  rcases hcase with ⟨rfl, hx0, rfl⟩ | ⟨g, o, rfl, hcb1, hcb2⟩
  · obtain rfl : ys = [] := List.eq_nil_of_length_eq_zero (by omega)
    rw [hx0] at c1a
    go_wp2_with (with_reducible refine wpList_append_gen rfl (.tmp 10) (.tmp 17) 35 35 rfl 5 (.int .u8 0) 1 1 Try.underlying35 Try.info5 rfl w1.heap.size ?a1 (.slice (some ⟨w1.heap.size, 0, none⟩) 0 0) 0 [] rfl ?a2 _ (0) [] rfl ?a3 ?a4 ?a5 ?a6)
    case a1 => exact hs2
    case a2 => exact hN1
    case a3 => exact Src.ofNil _ Try.underlying35 0
    case a4 => decide
    case a5 => decide
    case a6 =>
      intro v' w2 hown2 hU2 hblk2 hnil2 hoff2
      obtain ⟨ao2, co2, rfl⟩ := hown2.shape
      have hbs : ∀ q, (Value.slice ao2 (0) co2).ownBlock = some q → w1.heap.size ≤ q := fun q hq => (hown2.lt q hq).1
      have hown3 : Own w2 base 5 1 (.slice ao2 (0) co2) r'.xs.length (r'.xs.map byteV) := by
        rw [hdl, hdx]
        refine Own.mono ?_ (Nat.le_trans hbase (Nat.le_of_lt hl1))
        rw [hx0, List.eq_nil_of_length_eq_zero hx0]; exact hown2
      have hU2' : Upd [] w1 w2 := hU1.trans (fun q hq => Or.inr (by simp [Value.ownBlock] at hq; omega)) hU2
      have hu2 := hu.upd hU2' (by simp)
      have hUw := hU.trans_same hU2'
      have hbl2 := hbl1.upd hU2 (by simp [Value.ownBlock]; omega)
      have hc3 := hbl2.cell (i := 3) rfl
      have hf1 := hbl2.frozen 1
      have hf3 := hbl2.frozen 3
      have hc1 := hbl2.cell (i := 1) rfl
      clear hown2 hU2 hblk2 hnil2 hoff2 hown1 hbl1 hap1 hu1 hN1 c1a hU1
      go_wp2_with fail
      go_ret
      have hap2 : ∀ q, (Value.slice ao2 (0) co2).ownBlock = some q → q ≠ c := fun q hq => by have := hbs q hq; omega
      have hup : ∀ x y, Upd [c] w2 ((w2.setCell ⟨c, 1, none⟩ x).setCell ⟨c, 3, none⟩ y) := fun x y => ((Upd.refl _ _).setCell (a := ⟨c, 1, none⟩) (Or.inl (by simp)) _).setCell (a := ⟨c, 3, none⟩) (Or.inl (by simp)) _
      refine ⟨_, w1, .slice ao2 (0) co2, rfl, hU, hu, ⟨((hbl2.set 1 _).set 3 _).eq ?_, hown3.upd (hup _ _) (fun q hq => by simp; exact hap2 q hq), hap2, hbase, ?_, ?_, ?_, ?_⟩, hbs, (hU2'.mono (by simp)).trans_same (hup _ _)⟩
      · have := Ho'.out
        simp [hds, hdi, hdo]
        try simp at this
        try omega
      · rw [hds, hdl]; omega
      · rw [hds]; exact hsm
      · rw [hdi]; exact hi
      · rw [hdo]; exact hmod
  · have hcells : ∀ j u, ((r.xs.drop ys.length).map byteV)[j]? = some u → (w1.alloc (.cells #[] 5)).cell? ⟨g, o + ys.length + j, none⟩ = some u := fun j u hj => by
      have := hown1.cell rfl (j := ys.length + j) (u := u) (by rw [← hj, List.map_drop, List.getElem?_drop])
      rw [← Nat.add_assoc] at this
      exact this
    have hnl : ((r.xs.drop ys.length).map byteV).length = (r.xs.length - ys.length) * 1 := by simp
    have eadd : (⟨g, o, none⟩ : Addr).add ys.length = ⟨g, o + ys.length, none⟩ := addr_add _ _ _
    by_cases hcc : ys.length < cb
    · go_wp2_with (with_reducible refine wpList_append_gen rfl (.tmp 10) (.tmp 17) 35 35 rfl 5 (.int .u8 0) 1 1 Try.underlying35 Try.info5 rfl w1.heap.size ?b1 (.slice (some ⟨w1.heap.size, 0, none⟩) 0 0) 0 [] rfl ?b2 _ (r.xs.length - ys.length) ((r.xs.drop ys.length).map byteV) rfl ?b3 ?b4 ?b5 ?b6)
      case b1 => exact hs2
      case b2 => exact hN1
      case b3 => exact Src.ofSlice _ Try.underlying35 ⟨g, o + ys.length, none⟩ _ _ _ hnl (fun j u hj => by rw [addr_add]; exact hcells j u hj) (bytesV_one _)
      case b4 => unfold maxLen; omega
      case b5 => omega
      case b6 =>
        intro v' w2 hown2 hU2 hblk2 hnil2 hoff2
        obtain ⟨ao2, co2, rfl⟩ := hown2.shape
        have hbs : ∀ q, (Value.slice ao2 (r.xs.length - ys.length) co2).ownBlock = some q → w1.heap.size ≤ q := fun q hq => (hown2.lt q hq).1
        have hown3 : Own w2 base 5 1 (.slice ao2 (r.xs.length - ys.length) co2) r'.xs.length (r'.xs.map byteV) := by
          rw [hdl, hdx]
          refine Own.mono ?_ (Nat.le_trans hbase (Nat.le_of_lt hl1))
          rw [List.map_drop]; exact hown2
        have hU2' : Upd [] w1 w2 := hU1.trans (fun q hq => Or.inr (by simp [Value.ownBlock] at hq; omega)) hU2
        have hu2 := hu.upd hU2' (by simp)
        have hUw := hU.trans_same hU2'
        have hbl2 := hbl1.upd hU2 (by simp [Value.ownBlock]; omega)
        have hc3 := hbl2.cell (i := 3) rfl
        have hf1 := hbl2.frozen 1
        have hf3 := hbl2.frozen 3
        have hc1 := hbl2.cell (i := 1) rfl
        clear hown2 hU2 hblk2 hnil2 hoff2 hown1 hbl1 hap1 hu1 hN1 c1a hU1
        go_wp2_with fail
        go_ret
        have hap2 : ∀ q, (Value.slice ao2 (r.xs.length - ys.length) co2).ownBlock = some q → q ≠ c := fun q hq => by have := hbs q hq; omega
        have hup : ∀ x y, Upd [c] w2 ((w2.setCell ⟨c, 1, none⟩ x).setCell ⟨c, 3, none⟩ y) := fun x y => ((Upd.refl _ _).setCell (a := ⟨c, 1, none⟩) (Or.inl (by simp)) _).setCell (a := ⟨c, 3, none⟩) (Or.inl (by simp)) _
        refine ⟨_, w1, .slice ao2 (r.xs.length - ys.length) co2, rfl, hU, hu, ⟨((hbl2.set 1 _).set 3 _).eq ?_, hown3.upd (hup _ _) (fun q hq => by simp; exact hap2 q hq), hap2, hbase, ?_, ?_, ?_, ?_⟩, hbs, (hU2'.mono (by simp)).trans_same (hup _ _)⟩
        · have := Ho'.out
          simp [hds, hdi, hdo]
          try simp at this
          try omega
        · rw [hds, hdl]; omega
        · rw [hds]; exact hsm
        · rw [hdi]; exact hi
        · rw [hdo]; exact hmod
    · have hdn : r.xs.drop ys.length = [] := List.drop_eq_nil_of_le (by omega)
      obtain rfl : cb = ys.length := by omega
      go_wp2_with (with_reducible refine wpList_append_gen rfl (.tmp 10) (.tmp 17) 35 35 rfl 5 (.int .u8 0) 1 1 Try.underlying35 Try.info5 rfl w1.heap.size ?c1 (.slice (some ⟨w1.heap.size, 0, none⟩) 0 0) 0 [] rfl ?c2 _ 0 [] rfl ?c3 ?c4 ?c5 ?c6)
      case c1 => exact hs2
      case c2 => exact hN1
      case c3 => exact Src.ofSlice _ Try.underlying35 ⟨g, o, none⟩ _ _ _ rfl (fun j u hj => by simp at hj) (bytesV_one [])
      case c4 => decide
      case c5 => decide
      case c6 =>
        intro v' w2 hown2 hU2 hblk2 hnil2 hoff2
        obtain ⟨ao2, co2, rfl⟩ := hown2.shape
        have hbs : ∀ q, (Value.slice ao2 0 co2).ownBlock = some q → w1.heap.size ≤ q := fun q hq => (hown2.lt q hq).1
        have hown3 : Own w2 base 5 1 (.slice ao2 0 co2) r'.xs.length (r'.xs.map byteV) := by
          rw [hdl, hdx]
          refine Own.mono ?_ (Nat.le_trans hbase (Nat.le_of_lt hl1))
          rw [hdn, show r.xs.length - ys.length = 0 by omega]; exact hown2
        have hU2' : Upd [] w1 w2 := hU1.trans (fun q hq => Or.inr (by simp [Value.ownBlock] at hq; omega)) hU2
        have hu2 := hu.upd hU2' (by simp)
        have hUw := hU.trans_same hU2'
        have hbl2 := hbl1.upd hU2 (by simp [Value.ownBlock]; omega)
        have hc3 := hbl2.cell (i := 3) rfl
        have hf1 := hbl2.frozen 1
        have hf3 := hbl2.frozen 3
        have hc1 := hbl2.cell (i := 1) rfl
        clear hown2 hU2 hblk2 hnil2 hoff2 hown1 hbl1 hap1 hu1 hN1 c1a hU1
        go_wp2_with fail
        go_ret
        have hap2 : ∀ q, (Value.slice ao2 0 co2).ownBlock = some q → q ≠ c := fun q hq => by have := hbs q hq; omega
        have hup : ∀ x y, Upd [c] w2 ((w2.setCell ⟨c, 1, none⟩ x).setCell ⟨c, 3, none⟩ y) := fun x y => ((Upd.refl _ _).setCell (a := ⟨c, 1, none⟩) (Or.inl (by simp)) _).setCell (a := ⟨c, 3, none⟩) (Or.inl (by simp)) _
        refine ⟨_, w1, .slice ao2 0 co2, rfl, hU, hu, ⟨((hbl2.set 1 _).set 3 _).eq ?_, hown3.upd (hup _ _) (fun q hq => by simp; exact hap2 q hq), hap2, hbase, ?_, ?_, ?_, ?_⟩, hbs, (hU2'.mono (by simp)).trans_same (hup _ _)⟩
        · have := Ho'.out
          simp [hds, hdi, hdo]
          try simp at this
          try omega
        · rw [hds, hdl]; omega
        · rw [hds]; exact hsm
        · rw [hdi]; exact hi
        · rw [hdo]; exact hmod

end Go.Proofs.Ytnbhgfnjnccakaa
