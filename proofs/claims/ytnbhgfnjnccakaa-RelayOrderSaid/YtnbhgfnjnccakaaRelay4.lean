/- What the relay's steps do at a pair of open endpoints, in plain words. No Go text is walked here. -/
import Derived.Test.YtnbhgfnjnccakaaRelay3
namespace Go.Proofs.Ytnbhgfnjnccakaa
open Go Go.RowKit
set_option linter.unusedVariables false

/-- Endpoints 0 and 2 of both. -/
def pairP (size : Nat) (a b : EndM) (os : List OutM) : PortM := ⟨2, size, [a, EndM.reset 1, b, EndM.reset 0], [], os⟩
def EndM.dropK (a : EndM) (k : Nat) : EndM := { a with xs := a.xs.drop k }
def EndM.done (a : EndM) : Bool := (a.st == 1 && a.theirs) && a.xs.length == 0
/-- n bytes went out there. -/
def EndM.paid (b : EndM) (n : Nat) : EndM := if n = 0 then b else { b with room := b.room - n }
def payO (en : Int) (n : Nat) (ys : List UInt8) (os : List OutM) : List OutM := if n = 0 then os else os ++ [⟨2, en, strB ys, DestM.zero⟩]
def finB (a b : EndM) : EndM := if a.done = true ∧ b.st = 1 ∧ b.ours = false then { b with ours := true } else b
def finO (en : Int) (a b : EndM) (os : List OutM) : List OutM := if a.done = true ∧ b.st = 1 ∧ b.ours = false then os ++ [⟨3, en, .empty, DestM.zero⟩] else os

section
variable {size m : Nat} {a b : EndM} {os : List OutM}

theorem pair_sent2 (ys : List UInt8) : (pairP size a b os).sent 2 ys = pairP size a (b.paid (min b.roomN ys.length)) (payO 2 (min b.roomN ys.length) (ys.take (min b.roomN ys.length)) os) := by
  have e : (pairP size a b os).sendN 2 ys = min b.roomN ys.length := rfl
  unfold PortM.sent
  show (if (pairP size a b os).sendN 2 ys = 0 then _ else _) = _
  rw [e]
  unfold EndM.paid payO
  by_cases h : min b.roomN ys.length = 0
  · rw [if_pos h, if_pos h, if_pos h]
  · rw [if_neg h, if_neg h, if_neg h]; rfl
theorem pair_sent0 (ys : List UInt8) : (pairP size a b os).sent 0 ys = pairP size (a.paid (min a.roomN ys.length)) b (payO 0 (min a.roomN ys.length) (ys.take (min a.roomN ys.length)) os) := by
  have e : (pairP size a b os).sendN 0 ys = min a.roomN ys.length := rfl
  unfold PortM.sent
  show (if (pairP size a b os).sendN 0 ys = 0 then _ else _) = _
  rw [e]
  unfold EndM.paid payO
  by_cases h : min a.roomN ys.length = 0
  · rw [if_pos h, if_pos h, if_pos h]
  · rw [if_neg h, if_neg h, if_neg h]; rfl

theorem pair_fin2 : (pairP size a b os).finIf 0 2 = pairP size a (finB a b) (finO 2 a b os) := by
  have e : (pairP size a b os).ended 0 = a.done := rfl
  unfold finB finO
  by_cases h : a.done = true
  · rw [finIf_t (e.trans h)]
    unfold PortM.fined
    show (if b.st = 1 ∧ b.ours = false then _ else _) = _
    by_cases hb : b.st = 1 ∧ b.ours = false
    · rw [if_pos hb, if_pos ⟨h, hb⟩, if_pos ⟨h, hb⟩]; rfl
    · rw [if_neg hb, if_neg (fun hh => hb hh.2), if_neg (fun hh => hb hh.2)]
  · have h' : a.done = false := by simpa using h
    rw [finIf_f (e.trans h'), if_neg (fun hh => h hh.1), if_neg (fun hh => h hh.1)]
theorem pair_fin0 : (pairP size a b os).finIf 2 0 = pairP size (finB b a) b (finO 0 b a os) := by
  have e : (pairP size a b os).ended 2 = b.done := rfl
  unfold finB finO
  by_cases h : b.done = true
  · rw [finIf_t (e.trans h)]
    unfold PortM.fined
    show (if a.st = 1 ∧ a.ours = false then _ else _) = _
    by_cases hb : a.st = 1 ∧ a.ours = false
    · rw [if_pos hb, if_pos ⟨h, hb⟩, if_pos ⟨h, hb⟩]; rfl
    · rw [if_neg hb, if_neg (fun hh => hb hh.2), if_neg (fun hh => hb hh.2)]
  · have h' : b.done = false := by simpa using h
    rw [finIf_f (e.trans h'), if_neg (fun hh => h hh.1), if_neg (fun hh => h hh.1)]

/-- How many bytes go from x to y. -/
def gives (x y : EndM) (m : Nat) : Nat := min (min m y.roomN) x.xs.length
theorem gives_take (x y : EndM) (m : Nat) : min y.roomN (x.xs.take (min m y.roomN)).length = gives x y m := by
  unfold gives; rw [List.length_take]; omega
theorem gives_drop (x y : EndM) (m : Nat) : x.xs.drop (min m y.roomN) = x.xs.drop (gives x y m) := by
  unfold gives
  by_cases h : min m y.roomN ≤ x.xs.length
  · rw [Nat.min_eq_left h]
  · rw [List.drop_eq_nil_of_le (by omega), List.drop_eq_nil_of_le (by omega)]
theorem gives_bytes (x y : EndM) (m : Nat) : (x.xs.take (min m y.roomN)).take (gives x y m) = x.xs.take (gives x y m) := by
  rw [List.take_take]; congr 1; unfold gives; omega

theorem pair_hand2 (m : Nat) : (pairP size a b os).hand2 0 2 m = pairP size (a.dropK (gives a b m)) (b.paid (gives a b m)) (payO 2 (gives a b m) (a.xs.take (gives a b m)) os) := by
  have e1 : (pairP size a b os).handK 2 m = ((min m b.roomN : Nat) : Int) := rfl
  unfold PortM.hand2
  rw [e1]
  show (pairP size { a with xs := a.xs.drop (min m b.roomN) } b os).sent 2 (a.xs.take (min m b.roomN)) = _
  rw [pair_sent2, gives_take, gives_bytes, gives_drop]; rfl
theorem pair_hand0 (m : Nat) : (pairP size a b os).hand2 2 0 m = pairP size (a.paid (gives b a m)) (b.dropK (gives b a m)) (payO 0 (gives b a m) (b.xs.take (gives b a m)) os) := by
  have e1 : (pairP size a b os).handK 0 m = ((min m a.roomN : Nat) : Int) := rfl
  unfold PortM.hand2
  rw [e1]
  show (pairP size a { b with xs := b.xs.drop (min m a.roomN) } os).sent 0 (b.xs.take (min m a.roomN)) = _
  rw [pair_sent0, gives_take, gives_bytes, gives_drop]; rfl
theorem pair_n2 (m : Nat) : (pairP size a b os).handN 0 2 m = gives a b m := by
  show min b.roomN (a.xs.take (min m b.roomN)).length = _
  exact gives_take a b m
theorem pair_n0 (m : Nat) : (pairP size a b os).handN 2 0 m = gives b a m := by
  show min a.roomN (b.xs.take (min m a.roomN)).length = _
  exact gives_take b a m

/-- The pair behind a hand from 0 to 2. -/
def pairH (size : Nat) (a b : EndM) (os : List OutM) (m : Nat) : PortM :=
  pairP size (a.dropK (gives a b m)) (finB (a.dropK (gives a b m)) (b.paid (gives a b m))) (finO 2 (a.dropK (gives a b m)) (b.paid (gives a b m)) (payO 2 (gives a b m) (a.xs.take (gives a b m)) os))
theorem pair_handed2 (m : Nat) : (pairP size a b os).handed 0 2 m = pairH size a b os m := by
  unfold PortM.handed pairH
  rw [pair_hand2, pair_fin2]
theorem pair_handed0 (m : Nat) : (pairP size a b os).handed 2 0 m =
    pairP size (finB (b.dropK (gives b a m)) (a.paid (gives b a m))) (b.dropK (gives b a m)) (finO 0 (b.dropK (gives b a m)) (a.paid (gives b a m)) (payO 0 (gives b a m) (b.xs.take (gives b a m)) os)) := by
  unfold PortM.handed
  rw [pair_hand0, pair_fin0]

theorem pair_looked (m : Nat) (h : 1 ≤ m) : (pairP size a b os).lookedE 0 2 m = 0 := by
  unfold PortM.lookedE
  rw [if_pos]
  exact ⟨rfl, rfl, by decide, by omega⟩
theorem pair_lost (ha : a.st = 1) (hb : b.st = 1) : ((pairP size a b os).lost 0 || (pairP size a b os).lost 2) = false := by
  show ((a.st == 3 || a.st == 0) || (b.st == 3 || b.st == 0)) = false
  rw [ha, hb]; rfl

/-! ### Both open, no end told -/

def openE (xs : List UInt8) (room : Nat) : EndM := ⟨xs, 1, room, false, false, false⟩
theorem open_roomN (xs : List UInt8) (r : Nat) : (openE xs r).roomN = r := rfl
theorem open_done (xs : List UInt8) (r : Nat) : (openE xs r).done = false := rfl
theorem open_dropK (xs : List UInt8) (r k : Nat) : (openE xs r).dropK k = openE (xs.drop k) r := rfl
theorem open_paid (xs : List UInt8) (r n : Nat) : (openE xs r).paid n = openE xs (r - n) := by
  unfold EndM.paid
  by_cases h : n = 0
  · rw [if_pos h, h]; rfl
  · rw [if_neg h]; rfl
theorem open_finB {a b : EndM} (h : a.done = false) : finB a b = b := if_neg (fun hh => by rw [h] at hh; cases hh.1)
theorem open_finO {en : Int} {a b : EndM} {os : List OutM} (h : a.done = false) : finO en a b os = os := if_neg (fun hh => by rw [h] at hh; cases hh.1)

/-- Bytes of a step at two open endpoints. -/
def og (xs : List UInt8) (r m : Nat) : Nat := min (min m r) xs.length
theorem open_gives (xa xb : List UInt8) (ra rb m : Nat) : gives (openE xa ra) (openE xb rb) m = og xa rb m := rfl

/-- A step at two open endpoints. -/
def openStep (size : Nat) (xa : List UInt8) (ra : Nat) (xb : List UInt8) (rb : Nat) (os : List OutM) (m : Nat) : PortM :=
  pairP size (openE (xa.drop (og xa rb m)) (ra - og xb ra m)) (openE (xb.drop (og xb ra m)) (rb - og xa rb m)) (payO 0 (og xb ra m) (xb.take (og xb ra m)) (payO 2 (og xa rb m) (xa.take (og xa rb m)) os))

theorem open_both {xa xb : List UInt8} {ra rb : Nat} (m : Nat) : (pairP size (openE xa ra) (openE xb rb) os).both2 0 2 m = openStep size xa ra xb rb os m ∧ (pairP size (openE xa ra) (openE xb rb) os).bothN 0 2 m = og xa rb m + og xb ra m := by
  have h1 : (pairP size (openE xa ra) (openE xb rb) os).both1 0 2 m = pairP size (openE (xa.drop (og xa rb m)) ra) (openE xb (rb - og xa rb m)) (payO 2 (og xa rb m) (xa.take (og xa rb m)) os) := by
    unfold PortM.both1
    rw [pair_handed2]
    unfold pairH
    rw [open_gives, open_dropK, open_paid, open_finB (open_done _ _), open_finO (open_done _ _)]
    rfl
  unfold PortM.both2 PortM.bothN
  rw [h1, pair_n2, pair_n0, pair_handed0, open_gives, open_gives, open_dropK, open_paid, open_finB (open_done _ _), open_finO (open_done _ _)]
  exact ⟨rfl, rfl⟩

theorem open_step {xa xb : List UInt8} {ra rb : Nat} (m : Nat) (hm : 1 ≤ m) : (pairP size (openE xa ra) (openE xb rb) os).stepA 0 2 m = (og xa rb m + og xb ra m, false, 0) ∧ (pairP size (openE xa ra) (openE xb rb) os).stepped 0 2 m = openStep size xa ra xb rb os m := by
  obtain ⟨h1, h2⟩ := open_both (size := size) (os := os) (xa := xa) (xb := xb) (ra := ra) (rb := rb) m
  have hl := pair_lost (size := size) (os := os) (a := openE xa ra) (b := openE xb rb) rfl rfl
  have hk := pair_looked (size := size) (os := os) (a := openE xa ra) (b := openE xb rb) m hm
  have ho : (openStep size xa ra xb rb os m).over 0 2 = false := rfl
  unfold PortM.stepA PortM.stepped
  rw [hk, hl, if_pos rfl, if_pos rfl, if_neg (by decide), if_neg (by decide), Int.toNat_natCast, h1, h2, ho]
  exact ⟨rfl, rfl⟩
end

/-! ### What was told -/
def dataB (os : List OutM) : List UInt8 := os.flatMap fun o => o.data.data.toList
theorem dataB_append (a c : List OutM) : dataB (a ++ c) = dataB a ++ dataB c := by simp [dataB]
theorem dataB_one (k en : Int) (ys : List UInt8) (d : DestM) : dataB [⟨k, en, strB ys, d⟩] = ys := by simp [dataB, strB]
theorem take_succ_data {os : List OutM} {k : Nat} {o : OutM} (h : os[k]? = some o) : dataB (os.take (k + 1)) = dataB (os.take k) ++ o.data.data.toList := by
  rw [List.take_add_one, h, dataB_append]
  simp [dataB]

end Go.Proofs.Ytnbhgfnjnccakaa
