/- Memory words for the walks: whole blocks, frames by lists of blocks, slices of bytes. No Go and no program is in sight here. -/
import Derived.WalkKit
import Derived.Laws.CopyOwn
import Derived.Lib.Hide
import Derived.Deep.Draws
import Derived.StillTailTactics
import Derived.Deep.OwnRows
import Derived.Deep.AppendSrc
import Derived.Lib.SlBytesConst
import Derived.Laws.BytesArg
namespace Go.Proofs.YtnllmelmmcapcaaGreatDoor
open Go Go.RowKit
set_option linter.unusedVariables false

/-! ### Frames -/

/-- Of the blocks of w only those of F may read otherwise in w'. -/
structure Upd (F : List Nat) (w w' : World) : Prop where
  os : w'.os = w.os
  tape : w'.tape = w.tape
  output : w'.output = w.output
  size : w.heap.size ≤ w'.heap.size
  block : ∀ k, k < w.heap.size → k ∉ F → w'.heap[k]? = w.heap[k]?

/-- Each block of G is one of F, or is new since w. -/
def Within (w : World) (G F : List Nat) : Prop := ∀ k, k ∈ G → k ∈ F ∨ w.heap.size ≤ k

section
variable {F G H : List Nat} {w w1 w2 : World}

theorem Upd.refl (F : List Nat) (w : World) : Upd F w w := ⟨rfl, rfl, rfl, Nat.le_refl _, fun _ _ _ => rfl⟩

theorem Within.refl (w : World) (F : List Nat) : Within w F F := fun _ h => Or.inl h
theorem Within.trans (h1 : Upd F w w1) (a : Within w G F) (b : Within w1 H G) : Within w H F := by
  intro k hk
  rcases b k hk with h | h
  · exact a k h
  · exact Or.inr (Nat.le_trans h1.size h)
theorem Within.nil (w : World) (F : List Nat) : Within w [] F := fun _ h => by cases h

theorem Upd.trans (h1 : Upd F w w1) (hg : Within w G F) (h2 : Upd G w1 w2) : Upd F w w2 :=
  ⟨h2.os.trans h1.os, h2.tape.trans h1.tape, h2.output.trans h1.output, Nat.le_trans h1.size h2.size, fun k hk hkF => by
    rw [h2.block k (Nat.lt_of_lt_of_le hk h1.size) (fun h => (hg k h).elim hkF (fun h' => by omega))]
    exact h1.block k hk hkF⟩

theorem Upd.trans_same (h1 : Upd F w w1) (h2 : Upd F w1 w2) : Upd F w w2 := h1.trans (Within.refl _ _) h2

theorem Upd.mono (h : Upd F w w1) (hFG : ∀ k, k ∈ F → k ∈ G) : Upd G w w1 :=
  ⟨h.os, h.tape, h.output, h.size, fun k hk hkG => h.block k hk (fun h' => hkG (hFG k h'))⟩

theorem Upd.drew (h : Upd F w w1) : Upd F w w1.drew := ⟨h.os, h.tape, h.output, h.size, h.block⟩
theorem Upd.drewN (h : Upd F w w1) (n : Nat) : Upd F w (w1.drewN n) := ⟨h.os, h.tape, h.output, h.size, h.block⟩

theorem Upd.alloc (h : Upd F w w1) (o : Obj) : Upd F w (w1.alloc o) :=
  ⟨h.os, h.tape, h.output, by simp; exact Nat.le_succ_of_le h.size, fun k hk hkF => by
    rw [Below.heap_alloc _ _ _ (Nat.lt_of_lt_of_le hk h.size)]; exact h.block k hk hkF⟩

theorem Upd.setCell (h : Upd F w w1) {a : Addr} (ha : a.block ∈ F ∨ w.heap.size ≤ a.block) (v : Value) : Upd F w (w1.setCell a v) :=
  ⟨h.os, h.tape, h.output, by simp; exact h.size, fun k hk hkF => by
    rw [Below.heap_setCell _ _ _ _ (fun e => by subst e; exact ha.elim hkF (fun h' => by omega))]; exact h.block k hk hkF⟩

theorem Upd.setRow (h : Upd F w w1) {g : Nat} (ha : g ∈ F ∨ w.heap.size ≤ g) (cs : Array Value) : Upd F w (w1.setRow g cs) :=
  ⟨h.os, h.tape, h.output, by simp [World.setRow]; exact h.size, fun k hk hkF => by
    rw [setRow_other w1 g k cs (fun e => by subst e; exact ha.elim hkF (fun h' => by omega))]; exact h.block k hk hkF⟩

theorem Upd.below (h : Upd F w w1) (hF : ∀ k, k ∈ F → w.heap.size ≤ k) : Below w.heap.size w w1 :=
  ⟨h.os, h.tape, h.output, h.size, fun k hk => h.block k hk (fun h' => by have := hF k h'; omega)⟩

theorem Upd.of_below (h : Below w.heap.size w w1) (F : List Nat) : Upd F w w1 :=
  ⟨h.os, h.tape, h.output, h.size, fun k hk _ => h.block k hk⟩

theorem Upd.of_grown (h : Upd F w w1) {row : Option Nat} (hg : w1.grownBy w2 row) (hr : ∀ k, row = some k → k ∈ F ∨ w.heap.size ≤ k) : Upd F w w2 :=
  ⟨hg.os.trans h.os, hg.tape.trans h.tape, hg.output.trans h.output, Nat.le_trans h.size hg.size, fun k hk hkF => by
    rw [hg.block k (Nat.lt_of_lt_of_le hk h.size) (fun e => (hr k e.symm).elim hkF (fun h' => by omega))]
    exact h.block k hk hkF⟩

theorem Upd.cell (h : Upd F w w1) {a : Addr} (hl : a.block < w.heap.size) (ha : a.block ∉ F) : w1.cell? a = w.cell? a := World.cell?_of_block (h.block _ hl ha)
theorem Upd.frozen (h : Upd F w w1) {a : Addr} (hl : a.block < w.heap.size) (ha : a.block ∉ F) : w1.frozen? a = w.frozen? a := World.frozen?_of_block (h.block _ hl ha)
end

/-! ### Blocks -/

/-- Block b of w holds the cells cs (elements of type T), none of them frozen. -/
def Blk (w : World) (b T : Nat) (cs : List Value) : Prop := w.heap[b]? = some (.cells cs.toArray T (0, 0))

section
variable {w w1 : World} {b T : Nat} {cs : List Value}

theorem Blk.lt (h : Blk w b T cs) : b < w.heap.size := (Array.getElem?_eq_some_iff.1 h).1
theorem Blk.cell? (h : Blk w b T cs) (i : Nat) : w.cell? ⟨b, i, none⟩ = cs[i]? := by
  unfold Blk at h; simp [World.cell?, h]
theorem Blk.cell (h : Blk w b T cs) {i : Nat} {v : Value} (hi : cs[i]? = some v) : w.cell? ⟨b, i, none⟩ = some v := by rw [h.cell?, hi]
theorem Blk.frozen (h : Blk w b T cs) (i : Nat) : w.frozen? ⟨b, i, none⟩ = false := by
  unfold Blk at h; simp [World.frozen?, h]
theorem Blk.heap (h : Blk w b T cs) : w.heap[b]? = some (.cells cs.toArray T (0, 0)) := h

theorem Blk.drew (h : Blk w b T cs) : Blk w.drew b T cs := h
theorem Blk.drewN (h : Blk w b T cs) (n : Nat) : Blk (w.drewN n) b T cs := h
theorem Blk.alloc (h : Blk w b T cs) (o : Obj) : Blk (w.alloc o) b T cs := by
  unfold Blk; rw [Below.heap_alloc _ _ _ h.lt]; exact h
theorem Blk.upd {F : List Nat} (h : Blk w b T cs) (hu : Upd F w w1) (hb : b ∉ F) : Blk w1 b T cs := by
  unfold Blk; rw [hu.block b h.lt hb]; exact h
theorem Blk.set (h : Blk w b T cs) (i : Nat) (v : Value) : Blk (w.setCell ⟨b, i, none⟩ v) b T (cs.set i v) := by
  unfold Blk at *
  simp [World.setCell, Array.getElem?_modify, h]
theorem Blk.set_other (h : Blk w b T cs) {a : Addr} (ha : b ≠ a.block) (v : Value) : Blk (w.setCell a v) b T cs := by
  unfold Blk; rw [Below.heap_setCell _ _ _ _ ha]; exact h
theorem Blk.setRow (h : Blk w b T cs) (ds : List Value) : Blk (w.setRow b ds.toArray) b T ds := setRow_heap w b cs.toArray ds.toArray T (0, 0) h
theorem Blk.setRow_other (h : Blk w b T cs) {g : Nat} (hg : b ≠ g) (ds : Array Value) : Blk (w.setRow g ds) b T cs := by
  unfold Blk; rw [Go.setRow_other w g b ds hg]; exact h
theorem blk_new (w : World) (T : Nat) (cs : List Value) : Blk (w.alloc (.cells cs.toArray T)) w.heap.size T cs := heap_alloc_new w _
theorem blk_new' (w : World) (T : Nat) (cs : Array Value) : Blk (w.alloc (.cells cs T)) w.heap.size T cs.toList := by
  unfold Blk; rw [Array.toArray_toList]; exact heap_alloc_new w _
theorem Blk.eq (h : Blk w b T cs) {cs' : List Value} (e : cs = cs') : Blk w b T cs' := e ▸ h
theorem Blk.inj {T' : Nat} {cs' : List Value} (h : Blk w b T cs) (h' : Blk w b T' cs') : cs = cs' ∧ T = T' := by
  unfold Blk at h h'
  rw [h] at h'
  simp only [Option.some.injEq, Obj.cells.injEq] at h'
  exact ⟨by simpa using congrArg Array.toList h'.1, h'.2.1⟩
end

/-! ### Bytes -/

/-- A byte as a cell. -/
def byteV (c : UInt8) : Value := .int .u8 (c.toNat : Int)

theorem byteV_one (c : UInt8) : (byteV c).oneCell' = true := rfl
theorem bytesV_one (bs : List UInt8) : ∀ v ∈ bs.map byteV, v.oneCell' = true := by
  intro v hv; obtain ⟨c, _, rfl⟩ := List.mem_map.1 hv; rfl

/-- The value v is a slice that reads as bs in w, of a capacity within a machine's reach. -/
def Rd (w : World) (v : Value) (bs : List UInt8) : Prop :=
  ∃ ao cap, v = .slice ao bs.length cap ∧ bs.length ≤ cap ∧ cap ≤ 9223372036854775807 ∧ (ao = none → cap = 0) ∧
    ∀ ad, ao = some ad → (bs ≠ [] → ad.spot = none) ∧ ∀ j u, (bs.map byteV)[j]? = some u → w.cell? ⟨ad.block, ad.off + j, none⟩ = some u

/-! ### copy, into a block known whole -/

theorem addr_add (g o j : Nat) : (⟨g, o, none⟩ : Addr).add j = ⟨g, o + j, none⟩ := by unfold Addr.add; split <;> simp_all

theorem setRow_splice_nil {w : World} {g T : Nat} {cur : List Value} (hg : Blk w g T cur) (off : Nat) : w.setRow g (splice cur off []).toArray = w := by
  have : (splice cur off []).toArray = cur.toArray := by simp [splice]
  rw [this]
  exact setRow_self w g cur.toArray T (0, 0) hg

theorem wpList_copy_blk {P : Program} {w : World} {ops : Array Oper} {rest : List Oper} {o : Oper} {a : Act} {Q : Exit → Act → World → Prop} (hgd : o.guard = none) (d s : Operand) (dT sT : TypeId)
    (ho : o.op = .call { callee := .builtin .copy, args := #[d, s], argTypes := #[dT, sT] }) (elem : TypeId) (hu : P.underlying dT = some (.slice elem)) (hsz : (P.info? elem).map (·.size) = some 1)
    (dp sp : Option Addr) (dLen dCap sLen sCap : Nat) (hd : a.eval d = .slice dp dLen dCap) (hs : a.eval s = .slice sp sLen sCap)
    (g off t : Nat) (cur : List Value) (hg : Blk w g t cur) (n : Nat) (cs : List Value) (hn : n = Nat.min sLen dLen) (hl : cs.length = n)
    (hpos : 0 < n → dp = some ⟨g, off, none⟩ ∧ ∃ b o', sp = some ⟨b, o', none⟩ ∧ ∀ j v, cs[j]? = some v → w.cell? ⟨b, o' + j, none⟩ = some v)
    (hfit : off + n ≤ cur.length) (h1 : ∀ v ∈ cs, v.oneCell' = true)
    (h : ∀ w', Blk w' g t (splice cur off cs) → Upd [g] w w' → wpList P ops Q rest (a.put o.dst (.int .i64 (n : Int))) w') :
    wpList P ops Q (o :: rest) a w := by
  subst hl
  by_cases h0 : cs.length = 0
  · obtain rfl : cs = [] := List.eq_nil_of_length_eq_zero h0
    refine wpList_copy_nothing hgd d s dT sT ho elem hu hsz dp sp dLen dCap sLen sCap hd hs (by simpa using hn.symm) ?_
    exact h w (by have : splice cur off [] = cur := by simp [splice]
                  rw [this]; exact hg) (Upd.refl _ _)
  · obtain ⟨rfl, b, o', rfl, hsrc⟩ := hpos (by omega)
    refine wpList_copy_own hgd d s dT sT ho elem hu hsz g off dLen dCap _ sLen sCap hd hs cur.toArray t hg cs hn (fun j v hj => by rw [addr_add]; exact hsrc j v hj) (by simpa using hfit) h1 ?_
    exact h _ (hg.setRow _) ((Upd.refl _ _).setRow (Or.inl (by simp)) _)

/-! ### make, append: a new block, known whole -/

theorem madeCells_one (z : Value) (n : Nat) : madeCells #[z] n = (List.replicate n z).toArray := by
  apply Array.ext
  · simp [size_madeCells]
  · intro i h1 h2
    simp [madeCells, Nat.mod_one]

theorem wpList_make_blk {P : Program} {w : World} {ops : Array Oper} {rest : List Oper} {o : Oper} {a : Act} {Q : Exit → Act → World → Prop}
    (hg : o.guard = none) (l c : Operand) (t : TypeId) (hop : o.op = Op.makeSlice t l c)
    (e : TypeId) (z : Value) (bytes : Nat) (ht : P.underlying t = some (.slice e)) (hinfo : (P.info? e).map (fun i => (i.zero, i.size, i.bytes)) = some (some z, 1, bytes)) (hz1 : z.cells = #[z])
    (kl kc : IntKind) (n : Nat) (hl : a.eval l = .int kl (n : Int)) (hc : a.eval c = .int kc (n : Int)) (hbytes : bytes * n ≤ 281474976710656) (h63 : n ≤ 9223372036854775807)
    (h : ∀ w' g, g = w.heap.size → Blk w' g e (List.replicate n z) → Upd [] w w' → wpList P ops Q rest (a.put o.dst (.slice (some ⟨g, 0, none⟩) n n)) w') :
    wpList P ops Q (o :: rest) a w := by
  obtain ⟨i, hi, hzz⟩ := Option.map_eq_some_iff.1 hinfo
  simp only [Prod.mk.injEq] at hzz
  obtain ⟨hz, hs, hb⟩ := hzz
  refine wpList_make_row w hg l c t hop e i z ht hi hz hs hz1 kl kc n hl hc (by rw [hb]; exact hbytes) h63 ?_
  refine h _ w.heap.size rfl ?_ ((Upd.refl _ _).alloc _)
  rw [madeCells_one]
  exact blk_new w e _

theorem Blk.setCells {b T : Nat} : ∀ (vs : List Value) (o : Nat) (cs : List Value) (w : World), Blk w b T cs → o + vs.length ≤ cs.length → Blk (w.setCells b o vs) b T (splice cs o vs)
  | [], o, cs, w, h, hf => by
    have : splice cs o [] = cs := by simp [splice]
    rw [this]; exact h
  | v :: rest, o, cs, w, h, hf => by
    have h1 := Blk.setCells rest (o + 1) (cs.set o v) (w.setCell ⟨b, o, none⟩ v) (h.set o v) (by simp at hf ⊢; omega)
    have e : splice (cs.set o v) (o + 1) rest = splice cs o (v :: rest) := by
      have := list_seg_step cs o v rest (by simp at hf; omega)
      simp only [splice]
      rw [List.append_assoc, List.append_assoc] at this
      exact this
    rw [← e]
    exact h1

theorem splice_mid {α : Type} (A C news : List α) : splice (A ++ C) A.length news = A ++ (news ++ C.drop news.length) := by
  unfold splice
  rw [List.take_left, ← List.drop_drop, List.drop_left]

theorem Upd.setCells {F : List Nat} {w : World} {g : Nat} : ∀ (vs : List Value) (o : Nat) (w1 : World), Upd F w w1 → g ∈ F ∨ w.heap.size ≤ g → Upd F w (w1.setCells g o vs)
  | [], _, _, h, _ => h
  | v :: rest, o, w1, h, hg => Upd.setCells rest (o + 1) _ (h.setCell (a := ⟨g, o, none⟩) hg v) hg

/-- v is a slice of n elements (size cells each) that reads as the cells xs; it is nil, or lies in a block from base on that is known whole, none of it frozen. -/
def Own (w : World) (base e size : Nat) (v : Value) (n : Nat) (xs : List Value) : Prop :=
  xs.length = n * size ∧ ((v = .slice none 0 0 ∧ n = 0) ∨
    ∃ g off cap pre rest, v = .slice (some ⟨g, off, none⟩) n cap ∧ base ≤ g ∧ Blk w g e (pre ++ (xs ++ rest)) ∧ pre.length = off ∧ rest.length = (cap - n) * size ∧ n ≤ cap ∧ cap ≤ maxLen)

section
variable {w w1 : World} {base e size n : Nat} {v : Value} {xs : List Value}
theorem own_nil (w : World) (base e size : Nat) : Own w base e size (.slice none 0 0) 0 [] := ⟨by simp, Or.inl ⟨rfl, rfl⟩⟩
theorem Own.upd {F : List Nat} (h : Own w base e size v n xs) (hu : Upd F w w1) (hv : ∀ g, v.ownBlock = some g → g ∉ F) : Own w1 base e size v n xs := by
  refine ⟨h.1, ?_⟩
  rcases h.2 with h2 | ⟨g, off, cap, pre, rest, rfl, hb, hg, r⟩
  · exact Or.inl h2
  · exact Or.inr ⟨g, off, cap, pre, rest, rfl, hb, hg.upd hu (hv g rfl), r⟩
theorem Own.lt (h : Own w base e size v n xs) : ∀ g, v.ownBlock = some g → base ≤ g ∧ g < w.heap.size := by
  intro g hg
  rcases h.2 with ⟨rfl, _⟩ | ⟨g', off, cap, pre, rest, rfl, hb, hg', r⟩
  · cases hg
  · cases hg; exact ⟨hb, hg'.lt⟩
theorem Own.mono {base' : Nat} (h : Own w base e size v n xs) (hb : base' ≤ base) : Own w base' e size v n xs := by
  refine ⟨h.1, ?_⟩
  rcases h.2 with h2 | ⟨g, off, cap, pre, rest, rfl, hb', r⟩
  · exact Or.inl h2
  · exact Or.inr ⟨g, off, cap, pre, rest, rfl, by omega, r⟩
theorem Own.shape (h : Own w base e size v n xs) : ∃ ao cap, v = .slice ao n cap := by
  rcases h.2 with ⟨rfl, rfl⟩ | ⟨g', off, cap, pre, rest, rfl, _⟩
  · exact ⟨_, _, rfl⟩
  · exact ⟨_, _, rfl⟩
theorem Own.cell (h : Own w base e size v n xs) {g off cap : Nat} (hv : v = .slice (some ⟨g, off, none⟩) n cap) {j : Nat} {u : Value} (hj : xs[j]? = some u) : w.cell? ⟨g, off + j, none⟩ = some u := by
  rcases h.2 with ⟨rfl, rfl⟩ | ⟨g', off', cap', pre, rest, rfl, hb, hg', hp, r⟩
  · cases hv
  · cases hv
    refine hg'.cell ?_
    rw [List.getElem?_append_right (by omega), hp, Nat.add_sub_cancel_left, List.getElem?_append_left (List.getElem?_eq_some_iff.1 hj).1]
    exact hj
end

/-- An owned slice that is not nil: its block. -/
theorem Own.blk {w : World} {base e size n : Nat} {v : Value} {xs : List Value} (h : Own w base e size v n xs) (hv : v ≠ .slice none 0 0) :
    ∃ g off cap pre rest, v = .slice (some ⟨g, off, none⟩) n cap ∧ base ≤ g ∧ Blk w g e (pre ++ (xs ++ rest)) ∧ pre.length = off ∧ rest.length = (cap - n) * size ∧ n ≤ cap ∧ cap ≤ maxLen := by
  rcases h.2 with ⟨rfl, _⟩ | h
  · exact absurd rfl hv
  · exact h

/-- Where in its block a slice begins. -/
def offOf : Value → Nat
  | .slice (some a) _ _ => a.off
  | _ => 0

/-- What a slice hands to an append: m elements, the cells news. -/
def SrcS (w : World) (x : Value) (m size : Nat) (news : List Value) : Prop :=
  news.length = m * size ∧ (∀ u ∈ news, u.oneCell' = true) ∧ ((∃ c, x = .slice none 0 c ∧ m = 0) ∨ ∃ b o c, x = .slice (some ⟨b, o, none⟩) m c ∧ ∀ j u, news[j]? = some u → w.cell? ⟨b, o + j, none⟩ = some u)

theorem SrcS.src {P : Program} {w : World} {x : Value} {m size : Nat} {news : List Value} (h : SrcS w x m size news) {tx e' : TypeId} (hk : P.underlying tx = some (.slice e')) : Src P size tx x m news w := by
  obtain ⟨hl, h1, h⟩ := h
  rcases h with ⟨c, rfl, rfl⟩ | ⟨b, o, c, rfl, hc⟩
  · have : news = [] := List.eq_nil_of_length_eq_zero (by simpa using hl)
    subst this
    exact Src.ofNil w hk c
  · exact Src.ofSlice w hk ⟨b, o, none⟩ m c news hl (fun j u hj => by rw [addr_add]; exact hc j u hj) h1

/-- append, onto a slice of the call's own, whatever is appended: the old block written behind the slice, or a new block. -/
theorem wp_append_gen {P : Program} {w : World} {o : Oper} {a : Act} {K : Act → World → Prop} {Q : Exit → Act → World → Prop} (s x : Operand) (t tx : TypeId)
    (ho : o.op = .call { callee := .builtin .append, args := #[s, x], argTypes := #[t, tx] })
    (e : TypeId) (z : Value) (size bytes : Nat) (ht : P.underlying t = some (.slice e)) (hinfo : (P.info? e).map (fun i => (i.zero, i.size, i.bytes)) = some (some z, size, bytes)) (hzs : z.cells.size = size)
    (base : Nat) (hbase : base ≤ w.heap.size) (v : Value) (n : Nat) (xs : List Value) (hs : a.eval s = v) (hown : Own w base e size v n xs)
    (y : Value) (m : Nat) (news : List Value) (hx : a.eval x = y) (hsrc : Src P size tx y m news w)
    (h63 : n + m ≤ maxLen) (hbytes : (n + m) * bytes ≤ 140737488355328)
    (h : ∀ v' w', Own w' base e size v' (n + m) (xs ++ news) → Upd v.ownBlock.toList w w' → (∀ g, v'.ownBlock = some g → v.ownBlock = some g ∨ w.heap.size ≤ g) → (v' = .slice none 0 0 → v = .slice none 0 0 ∧ m = 0) → (offOf v' = offOf v ∨ offOf v' = 0) → K (a.put o.dst v') w') :
    o.wp P a w K Q := by
  obtain ⟨i, hi, hzz⟩ := Option.map_eq_some_iff.1 hinfo
  simp only [Prod.mk.injEq] at hzz
  obtain ⟨hz, rfl, rfl⟩ := hzz
  have key : ∀ v' w', (Builtin.append_ #[t, tx] o.type #[v, y]).run P w = .ok v' w' → K (a.put o.dst v') w' → o.wp P a w K Q := by
    intro v' w' hr hn
    unfold Oper.wp execOp
    simp only [ho, resolve, invoke, builtin, Sem.run_bind, Sem.run_pure, Result.andThen_ok, List.map_toArray, List.map_cons, List.map_nil, hs, hx, hr]
    exact hn
  have hlen : (xs ++ news).length = (n + m) * i.size := by rw [List.length_append, hown.1, hsrc.newsLen, Nat.add_mul]
  have h63' : ((n + m : Nat) : Int) ≤ 9223372036854775807 := by simp only [maxLen] at h63; omega
  -- a new row
  have grows : ∀ (old : Nat) (bs : Option Addr), v = .slice bs n old → old < n + m → (Builtin.firstCells i.size n (.slice bs n old)).run P w.drew = .ok xs.toArray w.drew → o.wp P a w K Q := by
    intro old bs hv ho' hold
    have hr := run_append_grow_src (P := P) w t tx o.type e i z ht hi hz bs n old xs hold y m news hsrc ho' h63' (growslice_fits (by omega) hbytes)
    rw [← hv] at hr
    refine key _ _ hr (h _ _ ⟨hlen, Or.inr ⟨w.heap.size, 0, _, [], (Builtin.zeroCells z.cells (grownCap w (n + m) old e - (n + m))).toList, rfl, hbase, ?_, rfl, ?_, grownCap_ge w (n + m) old e, grownCap_le_maxLen w (n + m) old e h63⟩⟩ ((Upd.refl _ _).drew.alloc _) (fun g hg => Or.inr (by cases hg; exact Nat.le_refl _)) (fun hh => by cases hh) (Or.inr rfl))
    · have e1 : ((xs ++ news).toArray ++ Builtin.zeroCells z.cells (grownCap w (n + m) old e - (n + m))) = ([] ++ (xs ++ news ++ (Builtin.zeroCells z.cells (grownCap w (n + m) old e - (n + m))).toList)).toArray := by
        apply Array.ext'; simp
      rw [e1]
      exact blk_new w.drew e _
    · rw [Array.length_toList, size_zeroCells, hzs]
  rcases hown.2 with ⟨hv, hn0⟩ | ⟨g, off, cap, pre, rst, hv, hb, hg, hpre, hrest, hnc, hcm⟩
  · have hx0 : xs = [] := List.eq_nil_of_length_eq_zero (by rw [hown.1, hn0]; simp)
    by_cases hm : m = 0
    · have hn' : news = [] := List.eq_nil_of_length_eq_zero (by rw [hsrc.newsLen, hm]; simp)
      have hr : (Builtin.append_ #[t, tx] o.type #[v, y]).run P w = .ok (.slice none 0 0) w := by
        have hc := hsrc.cells
        rw [hm, hn'] at hc
        have hl := hsrc.len w
        rw [hm] at hl
        rw [hv]
        rcases hsrc.kind with ⟨e', hk⟩ | hk <;> simp [Builtin.append_, run_underlying ht, run_underlying hk, sizeOf, typeInfo, hi, Builtin.lenOf]
        all_goals (simp [Builtin.lenOf] at hl; simp [hl, hc])
      refine key _ _ hr (h _ _ ?_ (Upd.refl _ _) (fun g hg => by cases hg) (fun _ => ⟨hv, hm⟩) (Or.inr rfl))
      rw [hx0, hn', hn0, hm]
      exact own_nil w base e i.size
    · refine grows 0 none (by rw [hv, hn0]) (by omega) ?_
      rw [hx0, hn0]
      exact run_firstCells_none w.drew i.size 0 0 0
  · by_cases hroom : n + m ≤ cap
    · have hfit : off + n * i.size + news.length ≤ (pre ++ (xs ++ rst)).length := by
        rw [List.length_append, List.length_append, hpre, hown.1, hrest, hsrc.newsLen, Nat.add_assoc, ← Nat.add_mul, ← Nat.add_mul]
        exact Nat.add_le_add_left (Nat.mul_le_mul_right _ (by omega)) _
      have hr := run_append_room_src (P := P) w t tx o.type e i ht hi g off n cap y m news hsrc hroom
        (fun j hj => by rw [hg.cell?, List.getElem?_eq_getElem (by omega)]; rfl) (fun j hj => hg.frozen _)
      rw [← hv] at hr
      refine key _ _ hr (h _ _ ⟨hlen, Or.inr ⟨g, off, cap, pre, rst.drop news.length, rfl, hb, ?_, hpre, ?_, hroom, hcm⟩⟩ (Upd.setCells _ _ _ (Upd.refl _ _) (Or.inl (by rw [hv]; simp [Value.ownBlock]))) (fun g' hg' => Or.inl (by rw [hv]; exact hg')) (fun hh => by cases hh) (Or.inl (by rw [hv]; rfl)))
      · have e1 : splice (pre ++ (xs ++ rst)) (off + n * i.size) news = pre ++ (xs ++ news ++ rst.drop news.length) := by
          have := splice_mid (pre ++ xs) rst news
          rw [List.length_append, hpre, hown.1, List.append_assoc, List.append_assoc] at this
          rw [this, List.append_assoc]
        rw [← e1]
        exact Blk.setCells _ _ _ _ hg hfit
      · rw [List.length_drop, hrest, hsrc.newsLen, ← Nat.sub_mul]
        congr 1
        omega
    · refine grows cap (some ⟨g, off, none⟩) hv (by omega) ?_
      refine run_firstCells_some w.drew i.size n ⟨g, off, none⟩ n cap xs hown.1 (fun j u hj => ?_)
      rw [addr_add]
      exact hown.cell hv hj

theorem wpList_append_gen {P : Program} {w : World} {ops : Array Oper} {rest : List Oper} {o : Oper} {a : Act} {Q : Exit → Act → World → Prop} (hgd : o.guard = none) (s x : Operand) (t tx : TypeId)
    (ho : o.op = .call { callee := .builtin .append, args := #[s, x], argTypes := #[t, tx] })
    (e : TypeId) (z : Value) (size bytes : Nat) (ht : P.underlying t = some (.slice e)) (hinfo : (P.info? e).map (fun i => (i.zero, i.size, i.bytes)) = some (some z, size, bytes)) (hzs : z.cells.size = size)
    (base : Nat) (hbase : base ≤ w.heap.size) (v : Value) (n : Nat) (xs : List Value) (hs : a.eval s = v) (hown : Own w base e size v n xs)
    (y : Value) (m : Nat) (news : List Value) (hx : a.eval x = y) (hsrc : Src P size tx y m news w)
    (h63 : n + m ≤ maxLen) (hbytes : (n + m) * bytes ≤ 140737488355328)
    (h : ∀ v' w', Own w' base e size v' (n + m) (xs ++ news) → Upd v.ownBlock.toList w w' → (∀ g, v'.ownBlock = some g → v.ownBlock = some g ∨ w.heap.size ≤ g) → (v' = .slice none 0 0 → v = .slice none 0 0 ∧ m = 0) → (offOf v' = offOf v ∨ offOf v' = 0) → wpList P ops Q rest (a.put o.dst v') w') :
    wpList P ops Q (o :: rest) a w :=
  wpList_plain hgd fun K hK => wp_append_gen s x t tx ho e z size bytes ht hinfo hzs base hbase v n xs hs hown y m news hx hsrc h63 hbytes (fun v' w' h1 h2 h3 h4 h5 => hK _ _ (h v' w' h1 h2 h3 h4 h5))

/-! ### bytes and strings -/

/-- The string of these bytes. -/
def strB (bs : List UInt8) : ByteArray := ⟨bs.toArray⟩

theorem strB_inj {a b : List UInt8} (h : strB a = strB b) : a = b := by
  unfold strB at h
  injection h with h
  simpa using congrArg Array.toList h

theorem run_string_of {P : Program} {w : World} {v : Value} {bs : List UInt8} (h : Rd w v bs) (src e dst : TypeId) (hs : P.underlying src = some (.slice e)) (he : P.underlying e = some (.int .u8)) (hd : P.underlying dst = some .string) :
    (convert src dst v).run P w = .ok (.string (strB bs)) w := by
  obtain ⟨ao, cap, rfl, _, _, hnil, hsome⟩ := h
  cases ao with
  | none =>
    have hc := hnil rfl
    have : bs = [] := List.eq_nil_of_length_eq_zero (by omega)
    subst this
    exact run_convert_bytes_nil w src e hs he 0 cap dst hd
  | some ad =>
    obtain ⟨hsp, hc⟩ := hsome ad rfl
    by_cases hb0 : bs = []
    · subst hb0
      rw [run_convert_bytes_string w src dst e _ _ cap hs he hd, List.length_nil, run_bytesToString w ad 0 cap [] (by simp [loadCells, loadCellsFrom])]
      rfl
    obtain ⟨b, o, sp⟩ := ad
    have hsp := hsp hb0
    simp only at hsp hc
    subst hsp
    rw [run_convert_bytes_arg w src e hs he b o bs.length cap (bs.map fun c => (c.toNat : Int)) (by simp) (fun i hi => ?_) dst hd]
    · congr 2
      unfold strOfNums strB
      congr 1
      rw [List.map_map]
      have : ((fun n : Int => UInt8.ofNat n.toNat) ∘ fun c : UInt8 => (c.toNat : Int)) = id := by
        funext c; simp
      rw [this, List.map_id]
    · rw [hc i (byteV bs[i]) (by simp [hi])]
      simp [List.getD, hi, byteV]

theorem rd_lit (w : World) (bs : List UInt8) (fz : Nat × Nat) (hl : bs.length ≤ 9223372036854775807) :
    Rd (w.alloc (.cells (bs.map byteV).toArray 5 fz)) (.slice (some ⟨w.heap.size, 0, none⟩) bs.length bs.length) bs := by
  refine ⟨_, _, rfl, Nat.le_refl _, hl, (fun h => by cases h), fun ad had => ?_⟩
  cases had
  refine ⟨fun _ => rfl, fun j u hj => ?_⟩
  have : (w.alloc (.cells (bs.map byteV).toArray 5 fz)).heap[w.heap.size]? = some (.cells (bs.map byteV).toArray 5 fz) := heap_alloc_new w _
  simp only [World.cell?, this, Nat.zero_add]
  simpa using hj

theorem Rd.lt {w : World} {v : Value} {bs : List UInt8} (h : Rd w v bs) (hb : bs ≠ []) : ∀ k, v.ownBlock = some k → k < w.heap.size := by
  obtain ⟨ao, cap, rfl, h1, h2, hnil, hsome⟩ := h
  intro k hk
  cases ao with
  | none => cases hk
  | some ad =>
    cases hk
    cases bs with
    | nil => exact absurd rfl hb
    | cons c cs => exact World.block_lt_of_cell? w ⟨ad.block, ad.off + 0, none⟩ ((hsome ad rfl).2 0 (byteV c) rfl)

theorem Rd.upd {F : List Nat} {w w1 : World} {v : Value} {bs : List UInt8} (h : Rd w v bs) (hu : Upd F w w1) (hv : ∀ g, v.ownBlock = some g → g ∉ F) : Rd w1 v bs := by
  obtain ⟨ao, cap, rfl, h1, h2, hnil, hsome⟩ := h
  refine ⟨ao, cap, rfl, h1, h2, hnil, fun ad had => ?_⟩
  obtain ⟨hsp, hc⟩ := hsome ad had
  refine ⟨hsp, fun j u hj => ?_⟩
  subst had
  have := hc j u hj
  rw [hu.cell (World.block_lt_of_cell? w _ this) (hv ad.block rfl)]
  exact this

theorem Blk.rd {w : World} {g : Nat} {bs : List UInt8} (h : Blk w g 5 (bs.map byteV)) (hl : bs.length ≤ 9223372036854775807) : Rd w (.slice (some ⟨g, 0, none⟩) bs.length bs.length) bs := by
  refine ⟨_, _, rfl, Nat.le_refl _, hl, (fun h => by cases h), fun ad had => ?_⟩
  cases had
  refine ⟨fun _ => rfl, fun j u hj => ?_⟩
  rw [Nat.zero_add]
  exact h.cell hj

/-- An owned slice of bytes reads as its bytes. -/
theorem Own.rd {w : World} {base : Nat} {v : Value} {bs : List UInt8} (h : Own w base 5 1 v bs.length (bs.map byteV)) : Rd w v bs := by
  rcases h.2 with ⟨rfl, h0⟩ | ⟨g, off, cap, pre, rest, hv, hb, hg, hp, hr, hn, hc⟩
  · have : bs = [] := List.eq_nil_of_length_eq_zero h0
    subst this
    exact ⟨none, 0, rfl, Nat.le_refl _, by omega, fun _ => rfl, fun ad had => by cases had⟩
  · refine ⟨_, cap, hv, hn, by unfold maxLen at hc; omega, (fun h => by cases h), fun ad had => ?_⟩
    cases had
    exact ⟨fun _ => rfl, fun j u hj => h.cell hv hj⟩

theorem cell?_spot (w : World) (x : Addr) (h : x.spot.isSome = true) : w.cell? x = none := by
  unfold World.cell?
  split
  · rw [if_pos h]
  · rfl

/-- A slice of bytes that came in, as the row's proof opens it. -/
theorem rd_of_row {w : World} {a : Option Addr} {len cap : Nat} {zs : List Int}
    (h : (a = none ∧ len = 0 ∧ cap = 0 ∧ zs = []) ∨
      ∃ x, a = some x ∧ len ≤ cap ∧ cap ≤ maxLen ∧ zs.length = cap ∧ (∀ i, i < zs.length → w.cell? (x.add i) = some (.int .u8 (zs.getD i 0))) ∧ ∀ n ∈ zs, (Lit.int .u8 n).wf = true) :
    ∃ bs : List UInt8, bs.length = len ∧ Rd w (.slice a len cap) bs := by
  rcases h with ⟨rfl, rfl, rfl, rfl⟩ | ⟨x, rfl, hlc, hcm, hz, hc, hwf⟩
  · exact ⟨[], rfl, none, 0, rfl, Nat.le_refl _, by omega, fun _ => rfl, fun ad had => by cases had⟩
  · have hl : ((zs.take len).map fun z => UInt8.ofNat z.toNat).length = len := by simp; omega
    refine ⟨(zs.take len).map fun z => UInt8.ofNat z.toNat, hl, some x, cap, by rw [hl], by rw [hl]; exact hlc, by unfold maxLen at hcm; omega, (fun h => by cases h), fun ad had => ?_⟩
    cases had
    have hsp : 0 < zs.length → x.spot = none := fun h0 => by
      have h1 := hc 0 h0
      have h2 : x.add 0 = x := by unfold Addr.add; simp
      rw [h2] at h1
      cases hs : x.spot with
      | none => rfl
      | some s => rw [cell?_spot w x (by rw [hs]; rfl)] at h1; cases h1
    refine ⟨fun hne => hsp ?_, fun j u hj => ?_⟩
    · rcases Nat.eq_zero_or_pos zs.length with h | h
      · have : zs = [] := List.eq_nil_of_length_eq_zero h
        subst this; simp at hne
      · exact h
    · have hjl : j < len := by have := (List.getElem?_eq_some_iff.1 hj).1; simp at this; omega
      have hjz : j < zs.length := by omega
      have hcj := hc j hjz
      have hsp := hsp (by omega)
      obtain ⟨b, o, sp⟩ := x
      simp only at hsp
      subst hsp
      rw [addr_add] at hcj
      rw [hcj]
      simp only [List.map_map, List.getElem?_map, List.getElem?_take, hjl, if_true, List.getElem?_eq_getElem hjz, Option.map_some, Option.some.injEq, Function.comp_apply] at hj
      rw [← hj]
      have hw := hwf zs[j] (List.getElem_mem hjz)
      have hb : 0 ≤ zs[j] ∧ zs[j] ≤ 255 := by
        simp [Lit.wf, IntKind.min, IntKind.max, IntKind.signed, IntKind.bits] at hw
        omega
      simp only [List.getD, List.getElem?_eq_getElem hjz, Option.getD_some, byteV]
      congr 2
      rw [UInt8.toNat_ofNat']
      omega

theorem ret_int {k : IntKind} {a b : Int} (h : a = b) : Ending.returned (.int k a) = .returned (.int k b) := by rw [h]

/-- A drawing region: n operations that only read, then a forced tail. -/
theorem wp_region_tail {P : Program} {id : Nat} {Q : Exit → Act → World → Prop} {a : Act} {w : World} {l : List Oper} (n : Nat) (hm : P.follows .mixedOrders = true) (hB : Region.lexTailB .any l.toArray n = true)
    (h : wpStill P l.toArray w.drew (fun a' => wpList P l.toArray Q (l.drop n) a' w.drew) (l.take n) a) : (Code.region id l.toArray true).wp P Q a w :=
  wp_region_still_tail n hm hB h

end Go.Proofs.YtnllmelmmcapcaaGreatDoor
