/- What a ring is, in plain words: its size, the bytes that are there, the two counts; how it lies in memory; and the plain laws of Put, Peek, Drop. No Go text is walked here. -/
import Derived.Test.YtnbhgfnjnccakaaMem
namespace Go.Proofs.Ytnbhgfnjnccakaa
open Go Go.RowKit
set_option linter.unusedVariables false

/-- A ring as data. -/
structure RingM where
  size : Nat
  xs : List UInt8
  i : Nat
  o : Nat

def RingM.putN (r : RingM) (bs : List UInt8) : Nat := min bs.length (r.size - r.xs.length)
def RingM.put (r : RingM) (bs : List UInt8) : RingM :=
  { r with xs := r.xs ++ bs.take (r.putN bs), i := (r.i + r.putN bs) % 4294967296 }
def RingM.cnt (r : RingM) (n : Int) : Nat := min n.toNat r.xs.length
def RingM.peek (r : RingM) (n : Int) : List UInt8 := r.xs.take (r.cnt n)
def RingM.drop (r : RingM) (n : Int) : RingM := { r with xs := r.xs.drop (r.cnt n), o := (r.o + r.cnt n) % 4294967296 }
def RingM.new (size : Nat) : RingM := ⟨size, [], 0, 0⟩

theorem RingM.cnt_le (r : RingM) (n : Int) : r.cnt n ≤ r.xs.length := Nat.min_le_right _ _
theorem RingM.peek_length (r : RingM) (n : Int) : (r.peek n).length = r.cnt n := by
  simp [RingM.peek]; exact Nat.min_eq_left (r.cnt_le n)

/-- The place of the j-th byte in an array of size cells that is gone round. -/
def wi (size first j : Nat) : Nat := if first + j < size then first + j else first + j - size

theorem mod_wi {size first n : Nat} (hf : first < size) (hn : n ≤ size) : (first + n) % size = wi size first n := by
  unfold wi
  split
  · rename_i h; exact Nat.mod_eq_of_lt h
  · rename_i h
    rw [Nat.mod_eq_sub_mod (by omega), Nat.mod_eq_of_lt (by omega)]

theorem splice_get {α : Type} (L : List α) (off : Nat) (cs : List α) (h : off + cs.length ≤ L.length) (j : Nat) :
    (splice L off cs)[j]? = if off ≤ j ∧ j < off + cs.length then cs[j - off]? else L[j]? := by
  unfold splice
  rw [List.getElem?_append]
  split
  · rename_i h1
    have h2 : j < off := by simp at h1; omega
    rw [if_neg (by omega), List.getElem?_take, if_pos h2]
  · rename_i h1
    have h2 : off ≤ j := by simp at h1; omega
    have h3 : (L.take off).length = off := by simp; omega
    rw [h3, List.getElem?_append]
    split
    · rw [if_pos (by omega)]
    · rw [if_neg (by omega), List.getElem?_drop]
      congr 1
      omega

theorem splice_map_append {α β : Type} (f : α → β) (bs cs : List α) (rest : List β) (off : Nat) (h : off + cs.length ≤ bs.length) :
    splice (bs.map f ++ rest) off (cs.map f) = (splice bs off cs).map f ++ rest := by
  unfold splice
  rw [List.take_append_of_le_length (by simp; omega), List.drop_append_of_le_length (by simp; omega)]
  simp [List.map_take, List.map_drop]

/-- The six cells of a ring: what went in and out, its bytes' slice, where the first lies, how many there are, made. -/
def ringCells (i o g size cap first n : Nat) : List Value :=
  [.int .u32 i, .int .u32 o, .slice (some ⟨g, 0, none⟩) size cap, .int .i64 first, .int .i64 n, .bool true]

/-- The ring r lies at block b, its bytes at block g. -/
structure RingX (w : World) (b g : Nat) (r : RingM) (cap first : Nat) (bs : List UInt8) (rest : List Value) : Prop where
  blk : Blk w b 135 (ringCells r.i r.o g r.size cap first r.xs.length)
  row : Blk w g 5 (bs.map byteV ++ rest)
  ne : b ≠ g
  len : bs.length = r.size
  small : r.size ≤ 65536
  cap : r.size ≤ cap
  fit : r.xs.length ≤ r.size
  hfirst : first < r.size ∨ (first = 0 ∧ r.size = 0)
  i : r.i < 4294967296
  o : r.o < 4294967296
  win : ∀ j c, r.xs[j]? = some c → bs[wi r.size first j]? = some c

def RingAt (w : World) (b g : Nat) (r : RingM) : Prop := ∃ cap first bs rest, RingX w b g r cap first bs rest

section
variable {w w1 : World} {b g : Nat} {r : RingM}
theorem RingAt.upd {F : List Nat} (h : RingAt w b g r) (hu : Upd F w w1) (hb : b ∉ F) (hg : g ∉ F) : RingAt w1 b g r := by
  obtain ⟨cap, first, bs, rest, h⟩ := h
  exact ⟨cap, first, bs, rest, { h with blk := h.blk.upd hu hb, row := h.row.upd hu hg }⟩
theorem RingAt.ne (h : RingAt w b g r) : b ≠ g := by obtain ⟨_, _, _, _, h⟩ := h; exact h.ne
theorem RingAt.lt (h : RingAt w b g r) : b < w.heap.size ∧ g < w.heap.size := by obtain ⟨_, _, _, _, h⟩ := h; exact ⟨h.blk.lt, h.row.lt⟩
theorem RingAt.fit (h : RingAt w b g r) : r.xs.length ≤ r.size := by obtain ⟨_, _, _, _, h⟩ := h; exact h.fit
theorem RingAt.small (h : RingAt w b g r) : r.size ≤ 65536 := by obtain ⟨_, _, _, _, h⟩ := h; exact h.small
theorem RingAt.io (h : RingAt w b g r) : r.i < 4294967296 ∧ r.o < 4294967296 := by obtain ⟨_, _, _, _, h⟩ := h; exact ⟨h.i, h.o⟩
end

/-! ### The plain law of Put -/

theorem win_put {size first n k m1 at' : Nat} {bs xs news : List UInt8} (hbs : bs.length = size) (hxs : xs.length = n) (hf : first < size) (hk : k ≤ size - n) (hn : n ≤ size)
    (hkn : k ≤ news.length) (hat : at' = (first + n) % size) (hm : m1 = min k (size - at')) (hw : ∀ j c, xs[j]? = some c → bs[wi size first j]? = some c) :
    ∀ j c, (xs ++ news.take k)[j]? = some c → (splice (splice bs at' (news.take m1)) 0 ((news.drop m1).take (k - m1)))[wi size first j]? = some c := by
  rw [mod_wi hf hn] at hat
  have hat' : at' = first + n ∧ first + n < size ∨ at' = first + n - size ∧ size ≤ first + n := by
    unfold wi at hat; split at hat
    · exact Or.inl ⟨hat, by assumption⟩
    · exact Or.inr ⟨hat, by omega⟩
  have l1 : (news.take m1).length = m1 := by simp; omega
  have l2 : ((news.drop m1).take (k - m1)).length = k - m1 := by simp; omega
  intro j c hj
  rw [splice_get _ _ _ (by rw [l2, length_splice _ _ _ (by rw [l1]; omega)]; omega), splice_get _ _ _ (by rw [l1]; omega), l1, l2]
  rw [List.getElem?_append] at hj
  by_cases hjn : j < n
  · rw [if_pos (by omega)] at hj
    have := hw j c hj
    have hne : ¬ (0 ≤ wi size first j ∧ wi size first j < 0 + (k - m1)) ∧ ¬ (at' ≤ wi size first j ∧ wi size first j < at' + m1) := by
      unfold wi; split <;> omega
    rw [if_neg hne.1, if_neg hne.2]
    exact this
  · rw [if_neg (by omega), List.getElem?_take] at hj
    split at hj
    · rename_i hjk
      rw [hxs] at hj hjk
      by_cases hc : j - n < m1
      · have h1 : wi size first j = at' + (j - n) := by unfold wi; split <;> omega
        rw [h1, if_neg (by omega), if_pos (by omega), List.getElem?_take, if_pos (by omega)]
        rw [← hj]; congr 1; omega
      · have h1 : wi size first j = j - n - m1 := by unfold wi; split <;> omega
        rw [h1, if_pos (by omega), List.getElem?_take, if_pos (by omega), List.getElem?_drop]
        rw [← hj]; congr 1; omega
    · cases hj

theorem splice_put_map {size k m1 at' : Nat} {bs news : List UInt8} {rest : List Value} (hbs : bs.length = size) (hm : m1 ≤ size - at') (hmk : m1 ≤ k) (hk : k - m1 ≤ size) (hkn : k ≤ news.length) (ha : at' < size) :
    splice (splice (bs.map byteV ++ rest) at' ((news.map byteV).take m1)) 0 (((news.map byteV).drop m1).take (k - m1)) =
      (splice (splice bs at' (news.take m1)) 0 ((news.drop m1).take (k - m1))).map byteV ++ rest := by
  have l1 : (news.take m1).length = m1 := by simp; omega
  have l2 : ((news.drop m1).take (k - m1)).length = k - m1 := by simp; omega
  rw [← List.map_take, splice_map_append _ _ _ _ _ (by rw [l1]; omega), ← List.map_drop, ← List.map_take, splice_map_append _ _ _ _ _ (by rw [l2, length_splice _ _ _ (by rw [l1]; omega)]; omega)]

/-! ### The plain law of Drop -/

theorem win_drop {size first n k : Nat} {bs xs : List UInt8} (hxs : xs.length = n) (hn : n ≤ size) (hf : first < size) (hk : k ≤ n) (hw : ∀ j c, xs[j]? = some c → bs[wi size first j]? = some c) :
    ∀ j c, (xs.drop k)[j]? = some c → bs[wi size ((first + k) % size) j]? = some c := by
  intro j c hj
  rw [List.getElem?_drop] at hj
  have := hw _ c hj
  have hlt : k + j < n := by rw [← hxs]; exact (List.getElem?_eq_some_iff.1 hj).1
  rw [mod_wi hf (by omega)]
  have h2 : wi size (wi size first k) j = wi size first (k + j) := by
    by_cases h : first + k < size
    · have : wi size first k = first + k := if_pos h
      rw [this]; unfold wi; split <;> split <;> omega
    · have : wi size first k = first + k - size := if_neg h
      rw [this]; unfold wi; split <;> split <;> omega
  rw [h2]; assumption

/-! ### The plain law of Peek -/

/-- What two copies lay out: from the first byte on, then from the array's head. -/
theorem peek_get {size first n k m1 : Nat} {bs xs : List UInt8} (hbs : bs.length = size) (hxs : xs.length = n) (hn : n ≤ size) (hf : first < size) (hk : k ≤ n) (hm : m1 = min k (size - first)) (hw : ∀ j c, xs[j]? = some c → bs[wi size first j]? = some c)
    (z : List UInt8) (hz : z.length = k) :
    splice (splice z 0 ((bs.drop first).take m1)) m1 (bs.take (k - m1)) = xs.take k := by
  have l1 : ((bs.drop first).take m1).length = m1 := by simp; omega
  have l2 : (bs.take (k - m1)).length = k - m1 := by simp; omega
  have l0 : (splice z 0 ((bs.drop first).take m1)).length = k := by rw [length_splice _ _ _ (by rw [l1]; omega)]; exact hz
  apply List.ext_getElem?
  intro j
  rw [splice_get _ _ _ (by rw [l2, l0]; omega), splice_get _ _ _ (by rw [l1]; omega), l1, l2, List.getElem?_take (l := xs)]
  by_cases hj : j < k
  · rw [if_pos hj]
    obtain ⟨c, hc⟩ : ∃ c, xs[j]? = some c := ⟨xs[j]'(by omega), List.getElem?_eq_getElem _⟩
    have h1 := hw j c hc
    rw [hc]
    by_cases hj1 : j < m1
    · rw [if_neg (by omega), if_pos (by omega), List.getElem?_take, if_pos (by omega), List.getElem?_drop, ← h1]
      congr 1; unfold wi; split <;> omega
    · rw [if_pos (by omega), List.getElem?_take, if_pos (by omega), ← h1]
      congr 1; unfold wi; split <;> omega
  · rw [if_neg hj, if_neg (by omega), if_neg (by omega)]
    exact List.getElem?_eq_none (by omega)

end Go.Proofs.Ytnbhgfnjnccakaa
