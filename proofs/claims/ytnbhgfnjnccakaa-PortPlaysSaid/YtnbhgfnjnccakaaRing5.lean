/- The walks of the ring's calls Take, Clear, New, Clone. -/
import Derived.Test.YtnbhgfnjnccakaaRing4
namespace Go.Proofs.Ytnbhgfnjnccakaa
open Go Go.RowKit
set_option linter.unusedVariables false

def TakePost (w : World) (b g : Nat) (r' : RingM) (ys : List UInt8) (e : Ending) (w' : World) : Prop :=
  ∃ G, e = .returned (.slice (some ⟨G, 0, none⟩) ys.length ys.length) ∧ w.heap.size ≤ G ∧ Blk w' G 5 (ys.map byteV) ∧ RingAt w' b g r' ∧ Upd [b] w w'

theorem ring_take {w : World} {b g : Nat} {r : RingM} (n : Int) (h : RingAt w b g r) :
    Calls Try.prog 60 #[.pointer (some ⟨b, 0, none⟩), .int .i64 n] w (TakePost w b g (r.drop n) (r.peek n)) := by
  have hp := ring_peek n h
  have hlt := h.lt
  generalize hys : r.peek n = ys at *
  clear hys
  go_enter Try.func60, Try.ntmps60
  go_wp2_with fail
  refine hp.mono ?_
  rintro e w1 ⟨G, rfl, hG, hB, hU⟩
  have h1 := h.upd hU (by simp) (by simp)
  have hd := ring_drop n h1
  clear h hp
  generalize r.cnt n = k at *
  generalize r.drop n = r' at *
  go_wp2_with fail
  refine hd.mono ?_
  rintro e w2 ⟨rfl, h2, hU2⟩
  go_wp2_with fail
  go_ret
  exact ⟨G, rfl, hG, hB.upd hU2 (by simp; omega), h2, (hU.mono (by simp)).trans_same hU2⟩

theorem ring_clear {w : World} {b g : Nat} {r : RingM} (h : RingAt w b g r) :
    Calls Try.prog 86 #[.pointer (some ⟨b, 0, none⟩)] w fun e w' => e = .returned (.tuple #[]) ∧ RingAt w' b g (r.drop (r.xs.length : Nat)) ∧ Upd [b] w w' := by
  have hl := ring_len h
  have hd := ring_drop (r.xs.length : Nat) h
  generalize r.cnt (r.xs.length : Nat) = k at *
  generalize r.drop (r.xs.length : Nat) = r' at *
  generalize r.xs.length = n at *
  go_enter Try.func86, Try.ntmps86
  go_wp2_with (first | (go_at_call 62; refine hl.mono ?_; rintro e w' ⟨rfl, rfl⟩) | (go_at_call 88; refine hd.mono ?_; rintro e w2 ⟨rfl, h2, hU2⟩))
  go_end0
  exact ⟨rfl, h2, hU2⟩

/-! ### New -/

def NewPost (w : World) (r : RingM) (e : Ending) (w' : World) : Prop :=
  ∃ b g, e = .returned (.tuple #[.pointer (some ⟨b, 0, none⟩), .int .i64 0]) ∧ w.heap.size ≤ b ∧ w.heap.size ≤ g ∧ RingAt w' b g r ∧ Upd [] w w'

theorem ring_new (n : Int) (w : World) (h0 : 0 ≤ n) (hn : n ≤ 65536) : Calls Try.prog 54 #[.int .i64 n] w (NewPost w (RingM.new n.toNat)) := by
  obtain ⟨n, rfl⟩ := Int.eq_ofNat_of_zero_le h0
  rw [Int.toNat_natCast]
  have hn : n ≤ 65536 := by omega
  have hmk := run_make_row' (P := Try.prog) 35 5 (.int .u8 0) 1 Try.underlying35 Try.info5 rfl .i64 .i64 n (by omega) (by omega)
  simp only [madeCells_one] at hmk
  go_enter Try.func54, Try.ntmps54
  go_wp2
  go_ret2
  have e1 : (Array.replicate n (Value.int .u8 0)).toList = (List.replicate n (0 : UInt8)).map byteV ++ [] := by simp [byteV]
  have hB := blk_new' (w.alloc (.cells (Array.replicate n (.int .u8 0)) 5)) 135 #[.int .u32 0, .int .u32 0, .slice (some ⟨w.heap.size, 0, none⟩) n n, .int .i64 0, .int .i64 0, .bool true]
  rw [World.size_alloc] at hB
  refine ⟨_, _, rfl, Nat.le_succ _, Nat.le_refl _, ⟨n, 0, List.replicate n 0, [], ?_⟩, ((Upd.refl _ _).alloc _).alloc _⟩
  exact { blk := hB, row := ((blk_new' w 5 _).eq e1).alloc _, ne := by simp, len := by simp [RingM.new], small := hn, cap := Nat.le_refl _, fit := Nat.zero_le _,
          hfirst := by simp [RingM.new]; omega, i := by simp [RingM.new], o := by simp [RingM.new], win := fun j c hj => by cases hj }

theorem ring_new_bad (n : Int) (w : World) (hn : n < 0 ∨ 65536 < n) : Calls Try.prog 54 #[.int .i64 n] w fun e w' => e = .returned (.tuple #[.pointer none, .int .i64 2]) ∧ w = w' := by
  rcases hn with hn | hn
  · go_enter Try.func54, Try.ntmps54
    go_wp2
    go_ret2
    exact ⟨rfl, rfl⟩
  · have h0 : ¬ n < 0 := by omega
    go_enter Try.func54, Try.ntmps54
    go_wp2
    go_ret2
    exact ⟨rfl, rfl⟩

/-! ### Clone -/
def ClonePost (w : World) (r : RingM) (e : Ending) (w' : World) : Prop :=
  ∃ b g, e = .returned (.pointer (some ⟨b, 0, none⟩)) ∧ w.heap.size ≤ b ∧ w.heap.size ≤ g ∧ RingAt w' b g r ∧ Upd [] w w'

set_option maxRecDepth 100000 in
theorem ring_clone {w : World} {b g : Nat} {r : RingM} (h : RingAt w b g r) : Calls Try.prog 74 #[.pointer (some ⟨b, 0, none⟩)] w (ClonePost w r) := by
  have his := h.is
  have hlt := h.lt
  obtain ⟨cap, first, bs, rest, h⟩ := h
  have hb := h.blk
  have hg := h.row
  have h0 := hb.cell (i := 0) rfl
  have h1 := hb.cell (i := 1) rfl
  have h2 := hb.cell (i := 2) rfl
  have h3 := hb.cell (i := 3) rfl
  have h4 := hb.cell (i := 4) rfl
  have h5 := hb.cell (i := 5) rfl
  have h2' : ∀ o1 o2, ((w.alloc o1).alloc o2).cell? ⟨b, 2, none⟩ = some (.slice (some ⟨g, 0, none⟩) r.size cap) := fun o1 o2 => ((hb.alloc o1).alloc o2).cell rfl
  have hs := h.small
  have hl := h.len
  generalize hr : r.size = size at *
  have HR := Lib.hid h
  have Hr := Lib.hid hr
  have HL := Lib.hid hl
  clear h hr hl
  go_enter Try.func74, Try.ntmps74
  go_wp2_with (first
    | (go_at_call 89; refine his.mono ?_; rintro e w' ⟨rfl, rfl⟩)
    | (with_reducible refine wpList_append_gen rfl (.tmp 10) (.tmp 14) 35 35 rfl 5 (.int .u8 0) 1 1 Try.underlying35 Try.info5 rfl w.heap.size ?a1 _ 0 [] rfl ?a2 _ size (bs.map byteV) rfl ?a3 ?a4 ?a5 ?a6))
  case a1 => simp; omega
  case a2 => exact ⟨rfl, Or.inr ⟨w.heap.size + 1, 0, 0, [], [], rfl, by omega, by simpa using blk_new (w.alloc _) 5 [], rfl, by simp, Nat.le_refl _, by decide⟩⟩
  case a3 =>
    refine Src.ofSlice _ Try.underlying35 ⟨g, 0, none⟩ size cap _ (by have := HL.out; simp; omega) (fun j u hj => ?_) (bytesV_one bs)
    rw [addr_add, Nat.zero_add]
    refine ((hg.alloc _).alloc _).cell ?_
    rw [List.getElem?_append_left (List.getElem?_eq_some_iff.1 hj).1]
    exact hj
  case a4 => unfold maxLen; omega
  case a5 => omega
  case a6 =>
    intro v' w1 hown hU hblk hnil hoff
    obtain ⟨g', off, cap', pre, rst, rfl, hgb, hB, hpre, hrst, hnc, hcm⟩ := hown.blk hnil
    obtain rfl : off = 0 := by simpa [offOf] using hoff
    obtain rfl : pre = [] := List.eq_nil_of_length_eq_zero hpre
    clear hoff hnil hpre
    have hg1 : g' ≠ w.heap.size := by
      have := hblk g' rfl
      simp [Value.ownBlock] at this
      omega
    have hU0 : Upd [] w w1 := (((Upd.refl [] w).alloc _).alloc _).trans (fun k hk => Or.inr (by simp [Value.ownBlock] at hk; omega)) hU
    have hC := blk_new' w 135 #[.int .u32 r.i, .int .u32 r.o, .slice (some ⟨g, 0, none⟩) size cap, .int .i64 first, .int .i64 r.xs.length, .bool true]
    have hC1 := (hC.alloc (.cells #[] 5)).upd hU (by simp [Value.ownBlock])
    clear hC hU hown
    have k2 := hC1.cell (i := 2) rfl
    have f2 := hC1.frozen 2
    clear h0 h1 h2 h2' h3 h4 h5 hb hg his
    go_wp2_with fail
    go_ret
    refine ⟨_, _, rfl, Nat.le_refl _, hgb, ⟨cap', first, bs, rst, ?_⟩, hU0.setCell (Or.inr (by simp)) _⟩
    have H := HR.out
    have hr := Hr.out
    exact { H with blk := (hC1.set 2 _).eq (by rw [← hr]; rfl), row := hB.set_other (by simpa using hg1) _, ne := hg1.symm, cap := by rw [hr]; exact hnc }

end Go.Proofs.Ytnbhgfnjnccakaa
