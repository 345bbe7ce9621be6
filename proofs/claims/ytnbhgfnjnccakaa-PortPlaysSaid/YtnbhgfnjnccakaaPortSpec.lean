/- What a port is, in plain words, and how it lies in memory. No Go text is walked here. -/
import Derived.Test.YtnbhgfnjnccakaaOwnE
import Derived.Test.YtnbhgfnjnccakaaRingSpec
namespace Go.Proofs.Ytnbhgfnjnccakaa
open Go Go.RowKit
set_option linter.unusedVariables false

/-- A cell of an owned slice is written. -/
theorem Own.set {w : World} {base e size n g off cap : Nat} {xs : List Value} (h : Own w base e size (.slice (some ⟨g, off, none⟩) n cap) n xs) (j : Nat) (u : Value) (hj : j < xs.length) :
    Own (w.setCell ⟨g, off + j, none⟩ u) base e size (.slice (some ⟨g, off, none⟩) n cap) n (xs.set j u) := by
  refine ⟨by rw [List.length_set]; exact h.1, ?_⟩
  rcases h.2 with ⟨hv, _⟩ | ⟨g', off', cap', pre, rest, hv, hb, hg, hp, hr, hn, hc⟩
  · cases hv
  · cases hv
    refine Or.inr ⟨g, off, cap, pre, rest, rfl, hb, ?_, hp, hr, hn, hc⟩
    have := hg.set (off + j) u
    refine this.eq ?_
    rw [List.set_append_right _ _ (by omega), hp, Nat.add_sub_cancel_left, List.set_append_left _ _ hj]

theorem Own.frozen {w : World} {base e size n g off cap : Nat} {xs : List Value} (h : Own w base e size (.slice (some ⟨g, off, none⟩) n cap) n xs) (j : Nat) : w.frozen? ⟨g, j, none⟩ = false := by
  rcases h.2 with ⟨hv, _⟩ | ⟨g', off', cap', pre, rest, hv, hb, hg, hp, hr, hn, hc⟩
  · cases hv
  · cases hv; exact hg.frozen j

/-- An endpoint: the bytes in its ring, its state (0 idle, 1 open, 2 dialled, 3 gone), its room; new; the other side ended; this side ended. -/
structure EndM where
  xs : List UInt8
  st : Nat
  room : Nat
  fresh : Bool
  theirs : Bool
  ours : Bool

/-- Where a connection goes. -/
structure DestM where
  a : Int
  b : Int
  c : Int
  d : Int
  name : ByteArray
  port : Int

/-- An output. -/
structure OutM where
  kind : Int
  en : Int
  data : ByteArray
  dest : DestM

structure PortM where
  clients : Nat
  size : Nat
  ends : List EndM
  box : List (List UInt8)
  outs : List OutM

def DestM.zero : DestM := ⟨0, 0, 0, 0, .empty, 0⟩
def outC (o : OutM) : List Value := [.int .i64 0, .int .i64 o.kind, .int .i64 o.en, .string o.data, .int .u8 o.dest.a, .int .u8 o.dest.b, .int .u8 o.dest.c, .int .u8 o.dest.d, .string o.dest.name, .int .i64 o.dest.port]
/-- An output as one value. -/
def outV (o : OutM) : Value := .agg #[.int .i64 0, .int .i64 o.kind, .int .i64 o.en, .string o.data, .int .u8 o.dest.a, .int .u8 o.dest.b, .int .u8 o.dest.c, .int .u8 o.dest.d, .string o.dest.name, .int .i64 o.dest.port]
def outsC (l : List OutM) : List Value := l.flatMap outC
/-- An endpoint's six cells; its ring lies at rb. -/
def endC (rb : Nat) (e : EndM) : List Value := [.pointer (some ⟨rb, 0, none⟩), .int .i64 e.st, .int .i64 e.room, .bool e.fresh, .bool e.theirs, .bool e.ours]

theorem outsC_append (l m : List OutM) : outsC (l ++ m) = outsC l ++ outsC m := by simp [outsC]
theorem outC_one (o : OutM) : ∀ u ∈ outC o, u.oneCell' = true := by
  intro u hu
  simp [outC] at hu
  rcases hu with rfl | rfl | rfl | rfl | rfl | rfl | rfl | rfl | rfl | rfl <;> rfl

/-- The cells xs hold the endpoints, one behind the other. -/
def LayE (rb : Nat → Nat) (xs : List Value) (es : List EndM) : Prop :=
  xs.length = es.length * 6 ∧ ∀ i e, es[i]? = some e → ∀ j v, (endC (rb i) e)[j]? = some v → xs[i * 6 + j]? = some v

theorem LayE.set {rb : Nat → Nat} {xs : List Value} {es : List EndM} {i j : Nat} {e e' : EndM} {u : Value} (h : LayE rb xs es) (hi : es[i]? = some e) (hj : j < 6) (hs : endC (rb i) e' = (endC (rb i) e).set j u) : LayE rb (xs.set (i * 6 + j) u) (es.set i e') := by
  have hl := h.1
  have hil := (List.getElem?_eq_some_iff.1 hi).1
  refine ⟨by rw [List.length_set, List.length_set]; exact hl, fun k x hk m v hv => ?_⟩
  have hm : m < 6 := (List.getElem?_eq_some_iff.1 hv).1
  by_cases hik : i = k
  · subst hik
    rw [List.getElem?_set_self hil] at hk
    cases hk
    rw [hs] at hv
    by_cases hjm : j = m
    · subst hjm
      rw [List.getElem?_set_self (by exact hj)] at hv
      rw [List.getElem?_set_self (by omega)]
      exact hv
    · rw [List.getElem?_set_ne hjm] at hv
      rw [List.getElem?_set_ne (by omega)]
      exact h.2 i e hi m v hv
  · rw [List.getElem?_set_ne hik] at hk
    rw [List.getElem?_set_ne (by omega)]
    exact h.2 k x hk m v hv

theorem LayE.same {rb : Nat → Nat} {xs : List Value} {es : List EndM} {i : Nat} {e e' : EndM} (h : LayE rb xs es) (hi : es[i]? = some e) (hs : endC (rb i) e' = endC (rb i) e) : LayE rb xs (es.set i e') := by
  refine ⟨by rw [List.length_set]; exact h.1, fun k x hk m v hv => ?_⟩
  by_cases hik : i = k
  · subst hik
    rw [List.getElem?_set_self (List.getElem?_eq_some_iff.1 hi).1] at hk
    cases hk
    rw [hs] at hv
    exact h.2 i e hi m v hv
  · rw [List.getElem?_set_ne hik] at hk
    exact h.2 k x hk m v hv

/-- Where a port's things lie: the rings, their bytes, the three slices; what each block is for; all its blocks. -/
structure PLay where
  rb : Nat → Nat
  g : Nat → Nat
  vl : Value
  vb : Value
  vo : Value
  tag : Nat → Nat
  foot : List Nat

/-- What holds of every endpoint. -/
def EndM.fine (e : EndM) : Prop := e.st ≤ 3 ∧ e.room ≤ 1099511627776

/-- Block q is one of the layout's, for the use n. -/
def PLay.has (l : PLay) (base n q : Nat) : Prop := base ≤ q ∧ l.tag q = n ∧ q ∈ l.foot

/-- A ring of a size, with these bytes. -/
def RingHas (w : World) (b g size : Nat) (xs : List UInt8) : Prop := ∃ r, RingAt w b g r ∧ r.xs = xs ∧ r.size = size
theorem RingHas.upd {w w1 : World} {b g size : Nat} {xs : List UInt8} {F : List Nat} (h : RingHas w b g size xs) (hu : Upd F w w1) (hb : b ∉ F) (hg : g ∉ F) : RingHas w1 b g size xs := by
  obtain ⟨r, h1, h2, h3⟩ := h
  exact ⟨r, h1.upd hu hb hg, h2, h3⟩
theorem RingHas.lt {w : World} {b g size : Nat} {xs : List UInt8} (h : RingHas w b g size xs) : b < w.heap.size ∧ g < w.heap.size := by
  obtain ⟨r, h1, _⟩ := h
  exact h1.lt
theorem RingHas.ne {w : World} {b g size : Nat} {xs : List UInt8} (h : RingHas w b g size xs) : b ≠ g := by
  obtain ⟨r, h1, _⟩ := h
  exact h1.ne
theorem RingHas.fit {w : World} {b g size : Nat} {xs : List UInt8} (h : RingHas w b g size xs) : xs.length ≤ size ∧ size ≤ 65536 := by
  obtain ⟨r, h1, rfl, rfl⟩ := h
  exact ⟨h1.fit, h1.small⟩

structure PortAt (w : World) (base b : Nat) (l : PLay) (p : PortM) : Prop where
  blk : Blk w b 100 [.int .i64 p.clients, l.vl, l.vb, l.vo, .bool true]
  ends : ∃ xs, Own w base 107 6 l.vl p.ends.length xs ∧ LayE l.rb xs p.ends
  rings : ∀ i e, p.ends[i]? = some e → RingHas w (l.rb i) (l.g i) p.size e.xs
  box : ∃ ys : List Value, OwnE w base 35 1 l.vb p.box.length ys ∧ ∀ (i : Nat) (bs : List UInt8), p.box[i]? = some bs → bs.length ≤ 512 → ∃ v : Value, ys[i]? = some v ∧ Rd w v bs ∧ ∀ q, v.ownBlock = some q → l.has base 4 q
  outs : Own w base 51 10 l.vo p.outs.length (outsC p.outs)
  tb : l.has base 0 b
  tl : ∀ q, l.vl.ownBlock = some q → l.has base 1 q
  tx : ∀ q, l.vb.ownBlock = some q → l.has base 2 q
  to : ∀ q, l.vo.ownBlock = some q → l.has base 3 q
  tr : ∀ i, i < p.ends.length → l.has base (5 + 2 * i) (l.rb i) ∧ l.has base (6 + 2 * i) (l.g i)
  small : p.ends.length ≤ 128
  cl : p.clients ≤ p.ends.length
  fine : ∀ e ∈ p.ends, e.fine
  bx : p.box.length ≤ 8
  lt : ∀ q, q ∈ l.foot → q < w.heap.size
  ge : ∀ q, q ∈ l.foot → base ≤ q

/-- What a call that turns a port leaves. -/
def PPost (w : World) (base b : Nat) (l : PLay) (p' : PortM) (w' : World) : Prop := ∃ l', PortAt w' base b l' p' ∧ Upd l.foot w w' ∧ Within w l'.foot l.foot

section
variable {w w1 : World} {base b : Nat} {l : PLay} {p : PortM}

theorem PLay.has.ne {n m q r base' : Nat} (h : l.has base n q) (h' : l.has base' m r) (hnm : n ≠ m) : q ≠ r := fun e => hnm (by subst e; rw [← h.2.1, ← h'.2.1])

theorem PortAt.upd {F : List Nat} (h : PortAt w base b l p) (hu : Upd F w w1) (hF : ∀ q, q ∈ F → q ∉ l.foot) : PortAt w1 base b l p := by
  have k : ∀ n q, l.has base n q → q ∉ F := fun n q hq hq' => hF q hq' hq.2.2
  obtain ⟨xs, h1, h2⟩ := h.ends
  obtain ⟨ys, h3, h4⟩ := h.box
  exact { h with
    blk := h.blk.upd hu (k _ _ h.tb)
    ends := ⟨xs, h1.upd hu (fun q hq => k _ _ (h.tl q hq)), h2⟩
    rings := fun i e hi => (h.rings i e hi).upd hu (k _ _ (h.tr i (List.getElem?_eq_some_iff.1 hi).1).1) (k _ _ (h.tr i (List.getElem?_eq_some_iff.1 hi).1).2)
    box := ⟨ys, h3.upd hu (fun q hq => k _ _ (h.tx q hq)), fun i bs hi hsz => by
      obtain ⟨v, e1, e2, e3⟩ := h4 i bs hi hsz
      exact ⟨v, e1, e2.upd hu (fun q hq => k _ _ (e3 q hq)), e3⟩⟩
    outs := h.outs.upd hu (fun q hq => k _ _ (h.to q hq))
    lt := fun q hq => Nat.lt_of_lt_of_le (h.lt q hq) hu.size }

theorem PortAt.drewN (h : PortAt w base b l p) (n : Nat) : PortAt (w.drewN n) base b l p := h.upd ((Upd.refl [] w).drewN n) (by simp)
theorem PortAt.alloc (h : PortAt w base b l p) (o : Obj) : PortAt (w.alloc o) base b l p := h.upd ((Upd.refl [] w).alloc o) (by simp)

theorem PortAt.vlShape (h : PortAt w base b l p) : ∃ ao cap, l.vl = .slice ao p.ends.length cap := by obtain ⟨xs, h1, _⟩ := h.ends; exact h1.shape

/-- Endpoint i: where it lies, and its cells. -/
theorem PortAt.cells (h : PortAt w base b l p) {i : Nat} {e : EndM} (hi : p.ends[i]? = some e) :
    ∃ g off cap, l.vl = .slice (some ⟨g, off, none⟩) p.ends.length cap ∧ l.has base 1 g ∧ w.cell? ⟨g, off + i * 6, none⟩ = some (.pointer (some ⟨l.rb i, 0, none⟩)) ∧ w.cell? ⟨g, off + i * 6 + 1, none⟩ = some (.int .i64 e.st) ∧ w.cell? ⟨g, off + i * 6 + 2, none⟩ = some (.int .i64 e.room) ∧
      w.cell? ⟨g, off + i * 6 + 3, none⟩ = some (.bool e.fresh) ∧ w.cell? ⟨g, off + i * 6 + 4, none⟩ = some (.bool e.theirs) ∧ w.cell? ⟨g, off + i * 6 + 5, none⟩ = some (.bool e.ours) ∧ ∀ j, w.frozen? ⟨g, j, none⟩ = false := by
  obtain ⟨xs, h1, h2⟩ := h.ends
  have hil := (List.getElem?_eq_some_iff.1 hi).1
  obtain ⟨ao, cap, hv⟩ := h1.shape
  rw [hv] at h1
  rcases h1.2 with ⟨hv', h0⟩ | ⟨g, off, cap', pre, rest, hv', hb, hg, hp, hr, hn, hc⟩
  · omega
  · cases hv'
    have key : ∀ j u, (endC (l.rb i) e)[j]? = some u → w.cell? ⟨g, off + i * 6 + j, none⟩ = some u := fun j u hj => by
      have := h1.cell rfl (h2.2 i e hi j u hj)
      rw [← Nat.add_assoc] at this
      exact this
    exact ⟨g, off, cap, hv, h.tl g (by rw [hv]; rfl), key 0 _ rfl, key 1 _ rfl, key 2 _ rfl, key 3 _ rfl, key 4 _ rfl, key 5 _ rfl, fun j => h1.frozen j⟩

def PortM.setEnd (p : PortM) (i : Nat) (e : EndM) : PortM := { p with ends := p.ends.set i e }

/-- One cell of an endpoint is written. -/
theorem PortAt.write (h : PortAt w base b l p) {i j g off cap n : Nat} {e e' : EndM} {u : Value} (hi : p.ends[i]? = some e) (hv : l.vl = .slice (some ⟨g, off, none⟩) n cap) (hj : j < 6) (hs : endC (l.rb i) e' = (endC (l.rb i) e).set j u) (hr : e'.xs = e.xs) (hf : e'.fine) :
    PortAt (w.setCell ⟨g, off + i * 6 + j, none⟩ u) base b l (p.setEnd i e') := by
  have hnn : n = p.ends.length := by obtain ⟨ao, co, hs⟩ := h.vlShape; rw [hv] at hs; cases hs; rfl
  subst hnn
  obtain ⟨xs, h1, h2⟩ := h.ends
  obtain ⟨ys, h3, h4⟩ := h.box
  have hil := (List.getElem?_eq_some_iff.1 hi).1
  have tg := h.tl g (by rw [hv]; rfl)
  have hu : Upd [g] w (w.setCell ⟨g, off + i * 6 + j, none⟩ u) := (Upd.refl _ _).setCell (a := ⟨g, off + i * 6 + j, none⟩) (Or.inl (by simp)) _
  have k : ∀ n q, n ≠ 1 → l.has base n q → q ∉ [g] := fun n q hn hq hq' => by simp at hq'; subst hq'; exact hn (by rw [← hq.2.1, ← tg.2.1])
  have hlen : (p.setEnd i e').ends.length = p.ends.length := by simp [PortM.setEnd]
  refine { blk := h.blk.upd hu (k _ _ (by decide) h.tb), ends := ⟨xs.set (i * 6 + j) u, ?_, h2.set hi hj hs⟩, rings := fun k' x hk => ?_, box := ⟨ys, h3.upd hu (fun q hq => k _ _ (by decide) (h.tx q hq)), fun i bs hi hsz => ?_⟩, outs := h.outs.upd hu (fun q hq => k _ _ (by decide) (h.to q hq)), tb := h.tb, tl := h.tl, tx := h.tx, to := h.to, tr := fun i hi => h.tr i (by rw [← hlen]; exact hi), small := by rw [hlen]; exact h.small, cl := by rw [hlen]; exact h.cl, fine := fun x hx => ?_, bx := h.bx, lt := fun q hq => Nat.lt_of_lt_of_le (h.lt q hq) hu.size, ge := h.ge }
  · rw [hlen, hv, Nat.add_assoc]
    rw [hv] at h1
    exact h1.set _ _ (by have := h2.1; omega)
  · by_cases hik : i = k'
    · subst hik
      have hx : x = e' := by simp only [PortM.setEnd, List.getElem?_set_self hil] at hk; exact (Option.some.inj hk).symm
      subst hx
      rw [hr]
      exact (h.rings i e hi).upd hu (k _ _ (by omega) (h.tr i hil).1) (k _ _ (by omega) (h.tr i hil).2)
    · have hk' : p.ends[k']? = some x := by simp only [PortM.setEnd, List.getElem?_set_ne hik] at hk; exact hk
      have hkl := (List.getElem?_eq_some_iff.1 hk').1
      exact (h.rings k' x hk').upd hu (k _ _ (by omega) (h.tr k' hkl).1) (k _ _ (by omega) (h.tr k' hkl).2)
  · obtain ⟨v, e1, e2, e3⟩ := h4 i bs hi hsz
    exact ⟨v, e1, e2.upd hu (fun q hq => k _ _ (by decide) (e3 q hq)), e3⟩
  · rcases List.mem_or_eq_of_mem_set hx with h' | h'
    · exact h.fine x h'
    · rw [h']; exact hf

/-- The ring of an endpoint turned. -/
theorem PortAt.ring (h : PortAt w base b l p) {i : Nat} {e : EndM} {xs' : List UInt8} (hi : p.ends[i]? = some e) (hu : Upd [l.rb i, l.g i] w w1) (hR : RingHas w1 (l.rb i) (l.g i) p.size xs') : PortAt w1 base b l (p.setEnd i { e with xs := xs' }) := by
  obtain ⟨xs, h1, h2⟩ := h.ends
  obtain ⟨ys, h3, h4⟩ := h.box
  have hil := (List.getElem?_eq_some_iff.1 hi).1
  obtain ⟨t1, t2⟩ := h.tr i hil
  have k : ∀ n q, n ≠ 5 + 2 * i → n ≠ 6 + 2 * i → l.has base n q → q ∉ [l.rb i, l.g i] := fun n q hn hn' hq hq' => by
    simp at hq'
    rcases hq' with rfl | rfl
    · exact hn (by rw [← hq.2.1, ← t1.2.1])
    · exact hn' (by rw [← hq.2.1, ← t2.2.1])
  have hlen : (p.setEnd i { e with xs := xs' }).ends.length = p.ends.length := by simp [PortM.setEnd]
  refine { blk := h.blk.upd hu (k _ _ (by omega) (by omega) h.tb), ends := ⟨xs, ?_, h2.same hi rfl⟩, rings := fun k' x hk => ?_, box := ⟨ys, h3.upd hu (fun q hq => k _ _ (by omega) (by omega) (h.tx q hq)), fun i bs hi hsz => ?_⟩, outs := h.outs.upd hu (fun q hq => k _ _ (by omega) (by omega) (h.to q hq)), tb := h.tb, tl := h.tl, tx := h.tx, to := h.to, tr := fun i hi => h.tr i (by rw [← hlen]; exact hi), small := by rw [hlen]; exact h.small, cl := by rw [hlen]; exact h.cl, fine := fun x hx => ?_, bx := h.bx, lt := fun q hq => Nat.lt_of_lt_of_le (h.lt q hq) hu.size, ge := h.ge }
  · rw [hlen]
    exact h1.upd hu (fun q hq => k _ _ (by omega) (by omega) (h.tl q hq))
  · by_cases hik : i = k'
    · subst hik
      have hx : x = { e with xs := xs' } := by simp only [PortM.setEnd, List.getElem?_set_self hil] at hk; exact (Option.some.inj hk).symm
      subst hx
      exact hR
    · have hk' : p.ends[k']? = some x := by simp only [PortM.setEnd, List.getElem?_set_ne hik] at hk; exact hk
      have hkl := (List.getElem?_eq_some_iff.1 hk').1
      exact (h.rings k' x hk').upd hu (k _ _ (by omega) (by omega) (h.tr k' hkl).1) (k _ _ (by omega) (by omega) (h.tr k' hkl).2)
  · obtain ⟨v, e1, e2, e3⟩ := h4 i bs hi hsz
    exact ⟨v, e1, e2.upd hu (fun q hq => k _ _ (by omega) (by omega) (e3 q hq)), e3⟩
  · rcases List.mem_or_eq_of_mem_set hx with h' | h'
    · exact h.fine x h'
    · rw [h']; exact h.fine e (List.mem_of_getElem? hi)
end

/-- p points to no port that a call made. -/
def NoPort (w : World) (p : Value) : Prop := p = .pointer none ∨ ∃ b, p = .pointer (some ⟨b, 0, none⟩) ∧ w.cell? ⟨b, 4, none⟩ = some (.bool false)

end Go.Proofs.Ytnbhgfnjnccakaa
