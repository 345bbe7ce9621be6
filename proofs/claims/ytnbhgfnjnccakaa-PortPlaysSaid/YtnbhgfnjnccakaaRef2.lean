/- The document's ring: the walks of Peek, Take, Clone. -/
import Derived.Test.YtnbhgfnjnccakaaRef1
namespace Go.Proofs.Ytnbhgfnjnccakaa
open Go Go.RowKit
set_option linter.unusedVariables false

/-! ### Peek -/

def RefPeekPost (w : World) (ys : List UInt8) (e : Ending) (w' : World) : Prop :=
  ∃ u, e = .returned u ∧ Own w' w.heap.size 5 1 u ys.length (ys.map byteV) ∧ Upd [] w w'

set_option maxHeartbeats 1000000 in
set_option maxRecDepth 100000 in
theorem ref_peek {w : World} {base c : Nat} {v : Value} {r : RingM} (n : Int) (h : RefAt w base c v r) :
    Calls Try.prog 92 #[.pointer (some ⟨c, 0, none⟩), .int .i64 n] w (RefPeekPost w (r.peek n)) := by
  have hfit := h.fit
  have hsm := h.small
  have hcn := r.cnt_le n
  have hpl : (r.peek n).length = r.cnt n := r.peek_length n
  have hcnt : ∀ k : Nat, k < r.cnt n ↔ ((k : Int) < n ∧ k < r.xs.length) := fun k => by unfold RingM.cnt; omega
  go_enter Try.func92, Try.ntmps92
  go_wp2_with fail
  have hst : Own (w.alloc (.cells #[] 5)) w.heap.size 5 1 (.slice (some ⟨w.heap.size, 0, none⟩) 0 0) 0 ((r.xs.take 0).map byteV) ∧ Upd [] w (w.alloc (.cells #[] 5)) :=
    ⟨⟨rfl, Or.inr ⟨w.heap.size, 0, 0, [], [], rfl, Nat.le_refl _, by simpa using blk_new w 5 [], rfl, by simp, Nat.le_refl _, by decide⟩⟩, (Upd.refl _ _).alloc _⟩
  generalize (Value.slice (some ⟨w.heap.size, 0, none⟩) 0 0) = out0 at *
  generalize w.alloc (.cells #[] 5) = w1 at *
  go_loopw [5, 6] (fun out i wr => ∃ k : Nat, k ≤ r.cnt n ∧ i = .int .i64 k ∧ Own wr w.heap.size 5 1 out k ((r.xs.take k).map byteV) ∧ Upd [] w wr) (fun _ i _ => r.cnt n - (intOf i).toNat)
  case atStart => exact ⟨0, Nat.zero_le _, rfl, hst⟩
  case round =>
    clear hst
    obtain ⟨k, hk, rfl, hown, hU⟩ := hrel
    obtain ⟨ao, co, rfl⟩ := hown.shape
    have hR := h.upd hU (by simp) (by simp)
    have hrd := hR.rd
    obtain ⟨au, cu, rfl, hl1, hl2, hnil, hcells⟩ := hrd
    have c1 := hR.blk.cell (i := 1) rfl
    by_cases hlt : k < r.cnt n
    · obtain ⟨hkn, hkl⟩ := (hcnt k).1 hlt
      obtain ⟨ad, rfl⟩ : ∃ ad, au = some ad := by
        cases au with
        | none => have := hnil rfl; omega
        | some ad => exact ⟨ad, rfl⟩
      obtain ⟨hsp, hcs⟩ := hcells ad rfl
      have hne : r.xs ≠ [] := by intro e; rw [e] at hkl; simp at hkl
      obtain ⟨gb, og, sp⟩ := ad
      have hsp := hsp hne
      simp only at hsp hcs
      subst hsp
      have hx1 := hcs k (byteV r.xs[k]) (by simp [hkl])
      have htk : r.xs.take (k + 1) = r.xs.take k ++ [r.xs[k]] := by rw [List.take_append_getElem]
      generalize r.xs[k] = x at *
      obtain ⟨xi, hxi⟩ : ∃ xi, byteV x = .int .u8 xi := ⟨_, rfl⟩
      have Hxi := Lib.hid hxi
      rw [hxi] at hx1
      have eadd : (⟨gb, og, none⟩ : Addr).add k = ⟨gb, og + k, none⟩ := addr_add _ _ _
      clear hxi hcells hcs hcnt hpl
      generalize hL : r.xs.length = L at *
      have HL := Lib.hid hL
      clear hL
      go_wp2_with (with_reducible refine wpList_append_gen rfl (.tmp 22) (.tmp 30) 35 35 rfl 5 (.int .u8 0) 1 1 Try.underlying35 Try.info5 rfl w.heap.size ?a1 (.slice ao k co) k ((r.xs.take k).map byteV) rfl ?a2 _ 1 [.int .u8 xi] rfl ?a3 ?a4 ?a5 ?a6)
      case a1 => exact Nat.le_succ_of_le hU.size
      case a2 => rw [← List.map_take]; exact hown.upd ((Upd.refl [] _).alloc _) (by simp)
      case a3 => exact Src.ofSlice _ Try.underlying35 ⟨wr.heap.size, 0, none⟩ _ _ _ (by simp) (fun j u hj => by rw [addr_add, Nat.zero_add]; exact (blk_new' wr 5 #[.int .u8 xi]).cell hj) (by rw [← Hxi.out]; exact bytesV_one [x])
      case a4 => unfold maxLen; omega
      case a5 => omega
      case a6 =>
        intro v' wa hown' hUa hblk hnil' hoff
        have hUb := (hU.alloc (.cells #[.int .u8 xi] 5)).trans (fun q hq => Or.inr (hown.lt q (mem_ownB hq)).1) hUa
        rw [← List.map_take] at hown'
        have hown'' : Own wa w.heap.size 5 1 v' (k + 1) ((r.xs.take (k + 1)).map byteV) := by
          rw [htk, List.map_append, List.map_cons, List.map_nil, Hxi.out]
          exact hown'
        clear hown' hUa hblk hnil' hoff hU hown hR c1 hx1
        go_wp2_with fail
        go_roundw
        case rel => exact ⟨k + 1, hlt, by go_num, hown'', hUb⟩
        case measure => simp [intOf]; omega
    · obtain rfl : k = r.cnt n := by omega
      have hys : r.xs.take (r.cnt n) = r.peek n := rfl
      rw [hys] at hown
      have hor : ¬ ((r.cnt n : Nat) : Int) < n ∨ (((r.cnt n : Nat) : Int) < n ∧ ¬ r.cnt n < r.xs.length) := by
        by_cases h1 : ((r.cnt n : Nat) : Int) < n
        · exact Or.inr ⟨h1, fun h2 => hlt ((hcnt _).2 ⟨h1, h2⟩)⟩
        · exact Or.inl h1
      clear hcnt hlt hys hcells hk
      generalize r.peek n = ys at *
      have Hpl := Lib.hid hpl
      generalize r.cnt n = k at *
      clear hpl
      rcases hor with h1 | ⟨h1, h2⟩
      · go_wp2_with fail
        go_ret
        refine ⟨_, rfl, ?_, hU⟩
        rw [Hpl.out]; exact hown
      · go_wp2_with fail
        go_ret
        refine ⟨_, rfl, ?_, hU⟩
        rw [Hpl.out]; exact hown

/-! ### Take -/

theorem RingM.drop_len (r : RingM) (n : Int) : (r.drop n).xs.length = r.xs.length - r.cnt n := by simp [RingM.drop]

/-- What Take leaves: what it hands on, and the ring. -/
def RefTakePost (w : World) (base c : Nat) (v : Value) (r' : RingM) (ys : List UInt8) (e : Ending) (w' : World) : Prop :=
  ∃ u v', e = .returned u ∧ Own w' w.heap.size 5 1 u ys.length (ys.map byteV) ∧ RefAt w' base c v' r' ∧ (∀ q, v'.ownBlock = some q → w.heap.size ≤ q) ∧ Upd [c] w w'

set_option maxHeartbeats 1000000 in
set_option maxRecDepth 100000 in
theorem ref_take {w : World} {base c : Nat} {v : Value} {r : RingM} (n : Int) (h : RefAt w base c v r) :
    Calls Try.prog 91 #[.pointer (some ⟨c, 0, none⟩), .int .i64 n] w (RefTakePost w base c v (r.drop n) (r.peek n)) := by
  have hp := ref_peek n h
  have hpl := r.peek_length n
  have hcn := r.cnt_le n
  have hfit := h.fit
  have hsm := h.small
  have hlt := h.lt
  have hbase := h.base
  have hi := h.i
  have hio := h.o
  go_enter Try.func91, Try.ntmps91
  go_wp2_with fail
  refine hp.mono ?_
  rintro e w1 ⟨u, rfl, hu, hU⟩
  have hR := h.upd hU (by simp) (by simp)
  obtain ⟨au, cu, rfl⟩ := hu.shape
  obtain ⟨ab, cb, rfl⟩ := hR.own.shape
  have c1 := hR.blk.cell (i := 1) rfl
  clear hp
  rw [hpl] at hu
  have hs1 := hU.size
  have hcase : (ab = none ∧ r.xs.length = 0 ∧ cb = 0) ∨ ∃ g o, ab = some ⟨g, o, none⟩ ∧ r.xs.length ≤ cb ∧ cb ≤ maxLen := by
    rcases hR.own.2 with ⟨hv, h0⟩ | ⟨g, off, cap, pre, rest, hv, hb, hg, hpr, hre, hn, hcm⟩
    · injection hv with e1 e2 e3; exact Or.inl ⟨e1, h0, e3⟩
    · injection hv with e1 e2 e3; subst e3; exact Or.inr ⟨g, off, e1, hn, hcm⟩
  have hU1 : Upd [] w1 (w1.alloc (.cells #[] 5)) := (Upd.refl _ _).alloc _
  have hR1 := hR.upd hU1 (by simp) (by simp)
  have c1a := hR1.blk.cell (i := 1) rfl
  have hN1 : Own (w1.alloc (.cells #[] 5)) w1.heap.size 5 1 (.slice (some ⟨w1.heap.size, 0, none⟩) 0 0) 0 [] :=
    ⟨rfl, Or.inr ⟨w1.heap.size, 0, 0, [], [], rfl, Nat.le_refl _, by simpa using blk_new w1 5 [], rfl, by simp, Nat.le_refl _, by decide⟩⟩
  have hown1 := hR1.own
  have hbl1 := hR1.blk
  have hap1 := hR1.ap
  have hu1 := hu.upd hU1 (by simp)
  have hs2 : w1.heap.size ≤ (w1.alloc (.cells #[] 5)).heap.size := hU1.size
  have hul := hu.lt
  have hl1 := hR.lt
  have hdx : (r.drop n).xs = r.xs.drop (r.cnt n) := rfl
  have hdl := r.drop_len n
  have hdi : (r.drop n).i = r.i := rfl
  have hds : (r.drop n).size = r.size := rfl
  have hdo : (r.drop n).o = (r.o + r.cnt n) % 4294967296 := rfl
  have hmod : (r.o + r.cnt n) % 4294967296 < 4294967296 := Nat.mod_lt _ (by decide)
  have e1 : IntKind.i64.wrap ((r.o : Int) + (r.cnt n : Int)) = ((r.o + r.cnt n : Nat) : Int) := by rw [IntWalk.i64_in _ (by omega)]; omega
  have e2 : Int.tmod ((r.o : Int) + (r.cnt n : Int)) 4294967296 = (((r.o + r.cnt n) % 4294967296 : Nat) : Int) := rfl
  generalize ho' : (r.o + r.cnt n) % 4294967296 = o' at *
  have Ho' := Lib.hid ho'
  clear ho'
  generalize r.drop n = r' at *
  generalize r.peek n = ys at *
  generalize r.cnt n = k at *
  subst hpl
  clear hR hR1 c1 h
  rcases hcase with ⟨rfl, hx0, rfl⟩ | ⟨g, o, rfl, hcb1, hcb2⟩
  · obtain rfl : ys = [] := List.eq_nil_of_length_eq_zero (by omega)
    rw [hx0] at c1a
    go_wp2_with (with_reducible refine wpList_append_gen rfl (.tmp 10) (.tmp 17) 35 35 rfl 5 (.int .u8 0) 1 1 Try.underlying35 Try.info5 rfl w1.heap.size ?a1 (.slice (some ⟨w1.heap.size, 0, none⟩) 0 0) 0 [] rfl ?a2 _ (0) [] rfl ?a3 ?a4 ?a5 ?a6)
    case a1 => exact hs2
    case a2 => exact hN1
    case a3 => exact Src.ofNil _ Try.underlying35 0
    case a4 => decide
    case a5 => decide
    case a6 =>
      intro v' w2 hown2 hU2 hblk2 hnil2 hoff2
      obtain ⟨ao2, co2, rfl⟩ := hown2.shape
      have hbs : ∀ q, (Value.slice ao2 (0) co2).ownBlock = some q → w1.heap.size ≤ q := fun q hq => (hown2.lt q hq).1
      have hown3 : Own w2 base 5 1 (.slice ao2 (0) co2) r'.xs.length (r'.xs.map byteV) := by
        rw [hdl, hdx]
        refine Own.mono ?_ (Nat.le_trans hbase (Nat.le_of_lt hl1))
        rw [hx0, List.eq_nil_of_length_eq_zero hx0]; exact hown2
      have hU2' : Upd [] w1 w2 := hU1.trans (fun q hq => Or.inr (by simp [Value.ownBlock] at hq; omega)) hU2
      have hu2 := hu.upd hU2' (by simp)
      have hUw := hU.trans_same hU2'
      have hbl2 := hbl1.upd hU2 (by simp [Value.ownBlock]; omega)
      have hc3 := hbl2.cell (i := 3) rfl
      have hf1 := hbl2.frozen 1
      have hf3 := hbl2.frozen 3
      have hc1 := hbl2.cell (i := 1) rfl
      clear hown2 hU2 hblk2 hnil2 hoff2 hown1 hbl1 hap1 hu1 hN1 c1a hU1
      go_wp2_with fail
      go_ret
      have hap2 : ∀ q, (Value.slice ao2 (0) co2).ownBlock = some q → q ≠ c := fun q hq => by have := hbs q hq; omega
      have hup : ∀ x y, Upd [c] w2 ((w2.setCell ⟨c, 1, none⟩ x).setCell ⟨c, 3, none⟩ y) := fun x y => ((Upd.refl _ _).setCell (a := ⟨c, 1, none⟩) (Or.inl (by simp)) _).setCell (a := ⟨c, 3, none⟩) (Or.inl (by simp)) _
      refine ⟨_, .slice ao2 (0) co2, rfl, hu2.upd (hup _ _) (fun q hq => by have := (hul q hq).1; simp; omega), ⟨((hbl2.set 1 _).set 3 _).eq ?_, hown3.upd (hup _ _) (fun q hq => by simp; exact hap2 q hq), hap2, hbase, ?_, ?_, ?_, ?_⟩, fun q hq => ?_, (hUw.mono (by simp)).trans_same (hup _ _)⟩
      · have := Ho'.out
        simp [hds, hdi, hdo]
        try simp at this
        try omega
      · rw [hds, hdl]; omega
      · rw [hds]; exact hsm
      · rw [hdi]; exact hi
      · rw [hdo]; exact hmod
      · have := hbs q hq; omega
  · have hcells : ∀ j u, ((r.xs.drop ys.length).map byteV)[j]? = some u → (w1.alloc (.cells #[] 5)).cell? ⟨g, o + ys.length + j, none⟩ = some u := fun j u hj => by
      have := hown1.cell rfl (j := ys.length + j) (u := u) (by rw [← hj, List.map_drop, List.getElem?_drop])
      rw [← Nat.add_assoc] at this
      exact this
    have hnl : ((r.xs.drop ys.length).map byteV).length = (r.xs.length - ys.length) * 1 := by simp
    have eadd : (⟨g, o, none⟩ : Addr).add ys.length = ⟨g, o + ys.length, none⟩ := addr_add _ _ _
    by_cases hcc : ys.length < cb
    · go_wp2_with (with_reducible refine wpList_append_gen rfl (.tmp 10) (.tmp 17) 35 35 rfl 5 (.int .u8 0) 1 1 Try.underlying35 Try.info5 rfl w1.heap.size ?b1 (.slice (some ⟨w1.heap.size, 0, none⟩) 0 0) 0 [] rfl ?b2 _ (r.xs.length - ys.length) ((r.xs.drop ys.length).map byteV) rfl ?b3 ?b4 ?b5 ?b6)
      case b1 => exact hs2
      case b2 => exact hN1
      case b3 => exact Src.ofSlice _ Try.underlying35 ⟨g, o + ys.length, none⟩ _ _ _ hnl (fun j u hj => by rw [addr_add]; exact hcells j u hj) (bytesV_one _)
      case b4 => unfold maxLen; omega
      case b5 => omega
      case b6 =>
        intro v' w2 hown2 hU2 hblk2 hnil2 hoff2
        obtain ⟨ao2, co2, rfl⟩ := hown2.shape
        have hbs : ∀ q, (Value.slice ao2 (r.xs.length - ys.length) co2).ownBlock = some q → w1.heap.size ≤ q := fun q hq => (hown2.lt q hq).1
        have hown3 : Own w2 base 5 1 (.slice ao2 (r.xs.length - ys.length) co2) r'.xs.length (r'.xs.map byteV) := by
          rw [hdl, hdx]
          refine Own.mono ?_ (Nat.le_trans hbase (Nat.le_of_lt hl1))
          rw [List.map_drop]; exact hown2
        have hU2' : Upd [] w1 w2 := hU1.trans (fun q hq => Or.inr (by simp [Value.ownBlock] at hq; omega)) hU2
        have hu2 := hu.upd hU2' (by simp)
        have hUw := hU.trans_same hU2'
        have hbl2 := hbl1.upd hU2 (by simp [Value.ownBlock]; omega)
        have hc3 := hbl2.cell (i := 3) rfl
        have hf1 := hbl2.frozen 1
        have hf3 := hbl2.frozen 3
        have hc1 := hbl2.cell (i := 1) rfl
        clear hown2 hU2 hblk2 hnil2 hoff2 hown1 hbl1 hap1 hu1 hN1 c1a hU1
        go_wp2_with fail
        go_ret
        have hap2 : ∀ q, (Value.slice ao2 (r.xs.length - ys.length) co2).ownBlock = some q → q ≠ c := fun q hq => by have := hbs q hq; omega
        have hup : ∀ x y, Upd [c] w2 ((w2.setCell ⟨c, 1, none⟩ x).setCell ⟨c, 3, none⟩ y) := fun x y => ((Upd.refl _ _).setCell (a := ⟨c, 1, none⟩) (Or.inl (by simp)) _).setCell (a := ⟨c, 3, none⟩) (Or.inl (by simp)) _
        refine ⟨_, .slice ao2 (r.xs.length - ys.length) co2, rfl, hu2.upd (hup _ _) (fun q hq => by have := (hul q hq).1; simp; omega), ⟨((hbl2.set 1 _).set 3 _).eq ?_, hown3.upd (hup _ _) (fun q hq => by simp; exact hap2 q hq), hap2, hbase, ?_, ?_, ?_, ?_⟩, fun q hq => ?_, (hUw.mono (by simp)).trans_same (hup _ _)⟩
        · have := Ho'.out
          simp [hds, hdi, hdo]
          try simp at this
          try omega
        · rw [hds, hdl]; omega
        · rw [hds]; exact hsm
        · rw [hdi]; exact hi
        · rw [hdo]; exact hmod
        · have := hbs q hq; omega
    · have hdn : r.xs.drop ys.length = [] := List.drop_eq_nil_of_le (by omega)
      obtain rfl : cb = ys.length := by omega
      go_wp2_with (with_reducible refine wpList_append_gen rfl (.tmp 10) (.tmp 17) 35 35 rfl 5 (.int .u8 0) 1 1 Try.underlying35 Try.info5 rfl w1.heap.size ?c1 (.slice (some ⟨w1.heap.size, 0, none⟩) 0 0) 0 [] rfl ?c2 _ 0 [] rfl ?c3 ?c4 ?c5 ?c6)
      case c1 => exact hs2
      case c2 => exact hN1
      case c3 => exact Src.ofSlice _ Try.underlying35 ⟨g, o, none⟩ _ _ _ rfl (fun j u hj => by simp at hj) (bytesV_one [])
      case c4 => decide
      case c5 => decide
      case c6 =>
        intro v' w2 hown2 hU2 hblk2 hnil2 hoff2
        obtain ⟨ao2, co2, rfl⟩ := hown2.shape
        have hbs : ∀ q, (Value.slice ao2 0 co2).ownBlock = some q → w1.heap.size ≤ q := fun q hq => (hown2.lt q hq).1
        have hown3 : Own w2 base 5 1 (.slice ao2 0 co2) r'.xs.length (r'.xs.map byteV) := by
          rw [hdl, hdx]
          refine Own.mono ?_ (Nat.le_trans hbase (Nat.le_of_lt hl1))
          rw [hdn, show r.xs.length - ys.length = 0 by omega]; exact hown2
        have hU2' : Upd [] w1 w2 := hU1.trans (fun q hq => Or.inr (by simp [Value.ownBlock] at hq; omega)) hU2
        have hu2 := hu.upd hU2' (by simp)
        have hUw := hU.trans_same hU2'
        have hbl2 := hbl1.upd hU2 (by simp [Value.ownBlock]; omega)
        have hc3 := hbl2.cell (i := 3) rfl
        have hf1 := hbl2.frozen 1
        have hf3 := hbl2.frozen 3
        have hc1 := hbl2.cell (i := 1) rfl
        clear hown2 hU2 hblk2 hnil2 hoff2 hown1 hbl1 hap1 hu1 hN1 c1a hU1
        go_wp2_with fail
        go_ret
        have hap2 : ∀ q, (Value.slice ao2 0 co2).ownBlock = some q → q ≠ c := fun q hq => by have := hbs q hq; omega
        have hup : ∀ x y, Upd [c] w2 ((w2.setCell ⟨c, 1, none⟩ x).setCell ⟨c, 3, none⟩ y) := fun x y => ((Upd.refl _ _).setCell (a := ⟨c, 1, none⟩) (Or.inl (by simp)) _).setCell (a := ⟨c, 3, none⟩) (Or.inl (by simp)) _
        refine ⟨_, .slice ao2 0 co2, rfl, hu2.upd (hup _ _) (fun q hq => by have := (hul q hq).1; simp; omega), ⟨((hbl2.set 1 _).set 3 _).eq ?_, hown3.upd (hup _ _) (fun q hq => by simp; exact hap2 q hq), hap2, hbase, ?_, ?_, ?_, ?_⟩, fun q hq => ?_, (hUw.mono (by simp)).trans_same (hup _ _)⟩
        · have := Ho'.out
          simp [hds, hdi, hdo]
          try simp at this
          try omega
        · rw [hds, hdl]; omega
        · rw [hds]; exact hsm
        · rw [hdi]; exact hi
        · rw [hdo]; exact hmod
        · have := hbs q hq; omega

end Go.Proofs.Ytnbhgfnjnccakaa
