/- What the relay's steps do at a pair of open endpoints whose other sides have ended, in plain words. No Go text is walked here. -/
import Derived.Test.YtnbhgfnjnccakaaRelay4
namespace Go.Proofs.Ytnbhgfnjnccakaa
open Go Go.RowKit
set_option linter.unusedVariables false

def endE (xs : List UInt8) (room : Nat) (ours : Bool) : EndM := ⟨xs, 1, room, false, true, ours⟩
def eNil (xs : List UInt8) : Bool := xs.length == 0
def roomB (o : Bool) (r : Nat) : Nat := if o then 0 else r
theorem end_roomN (xs : List UInt8) (r : Nat) (o : Bool) : (endE xs r o).roomN = roomB o r := by
  cases o <;> rfl
theorem end_done (xs : List UInt8) (r : Nat) (o : Bool) : (endE xs r o).done = eNil xs := rfl
theorem end_dropK (xs : List UInt8) (r k : Nat) (o : Bool) : (endE xs r o).dropK k = endE (xs.drop k) r o := rfl
theorem end_paid (xs : List UInt8) (r n : Nat) (o : Bool) : (endE xs r o).paid n = endE xs (r - n) o := by
  unfold EndM.paid
  by_cases h : n = 0
  · rw [if_pos h, h]; rfl
  · rw [if_neg h]; rfl
def finX (en : Int) (c : Bool) (os : List OutM) : List OutM := if c then os ++ [⟨3, en, .empty, DestM.zero⟩] else os
theorem end_finB (a : EndM) (xs : List UInt8) (r : Nat) (o : Bool) : finB a (endE xs r o) = endE xs r (o || a.done) := by
  unfold finB
  cases h : a.done <;> cases o <;> simp [endE]
theorem end_finO (en : Int) (a : EndM) (xs : List UInt8) (r : Nat) (o : Bool) (os : List OutM) : finO en a (endE xs r o) os = finX en (a.done && !o) os := by
  unfold finO finX
  cases h : a.done <;> cases o <;> simp [endE]

def endsP (xa : List UInt8) (ra : Nat) (oa : Bool) (xb : List UInt8) (rb : Nat) (ob : Bool) (os : List OutM) : PortM := pairP 64 (endE xa ra oa) (endE xb rb ob) os

section
variable {xa xb : List UInt8} {ra rb m : Nat} {oa ob : Bool}

/-- What goes out in a step. -/
def endsO (xa : List UInt8) (ra : Nat) (oa : Bool) (xb : List UInt8) (rb : Nat) (ob : Bool) (m : Nat) : List OutM :=
  finX 0 (eNil (xb.drop (og xb (roomB oa ra) m)) && !oa) (payO 0 (og xb (roomB oa ra) m) (xb.take (og xb (roomB oa ra) m))
    (finX 2 (eNil (xa.drop (og xa (roomB ob rb) m)) && !ob) (payO 2 (og xa (roomB ob rb) m) (xa.take (og xa (roomB ob rb) m)) [])))

theorem ends_both : (endsP xa ra oa xb rb ob []).both2 0 2 m =
    endsP (xa.drop (og xa (roomB ob rb) m)) (ra - og xb (roomB oa ra) m) (oa || eNil (xb.drop (og xb (roomB oa ra) m))) (xb.drop (og xb (roomB oa ra) m)) (rb - og xa (roomB ob rb) m) (ob || eNil (xa.drop (og xa (roomB ob rb) m))) (endsO xa ra oa xb rb ob m) ∧
    (endsP xa ra oa xb rb ob []).bothN 0 2 m = og xa (roomB ob rb) m + og xb (roomB oa ra) m := by
  have g2 : ∀ (xa xb : List UInt8) (ra rb : Nat) (oa ob : Bool), gives (endE xa ra oa) (endE xb rb ob) m = og xa (roomB ob rb) m := fun xa xb ra rb oa ob => by
    unfold gives og
    rw [end_roomN]; rfl
  have h1 : (endsP xa ra oa xb rb ob []).both1 0 2 m = endsP (xa.drop (og xa (roomB ob rb) m)) ra oa xb (rb - og xa (roomB ob rb) m) (ob || eNil (xa.drop (og xa (roomB ob rb) m))) (finX 2 (eNil (xa.drop (og xa (roomB ob rb) m)) && !ob) (payO 2 (og xa (roomB ob rb) m) (xa.take (og xa (roomB ob rb) m)) [])) := by
    unfold PortM.both1 endsP
    rw [pair_handed2]
    unfold pairH
    rw [g2, end_dropK, end_paid, end_finB, end_finO, end_done]
    rfl
  unfold PortM.both2 PortM.bothN
  rw [h1]
  unfold endsP
  rw [pair_n2, pair_n0, pair_handed0, g2, g2, end_dropK, end_paid, end_finB, end_finO, end_done]
  exact ⟨rfl, rfl⟩

/-- The pair, both endpoints idle. -/
def goneP (os : List OutM) : PortM := pairP 64 (EndM.reset 0) (EndM.reset 0) os

theorem ends_step (hm : 1 ≤ m) : (endsP xa ra oa xb rb ob []).stepA 0 2 m = (og xa (roomB ob rb) m + og xb (roomB oa ra) m, eNil (xa.drop (og xa (roomB ob rb) m)) && eNil (xb.drop (og xb (roomB oa ra) m)), 0) ∧
    (endsP xa ra oa xb rb ob []).stepped 0 2 m = (if (eNil (xa.drop (og xa (roomB ob rb) m)) && eNil (xb.drop (og xb (roomB oa ra) m))) = true then goneP (endsO xa ra oa xb rb ob m) else
      endsP (xa.drop (og xa (roomB ob rb) m)) (ra - og xb (roomB oa ra) m) (oa || eNil (xb.drop (og xb (roomB oa ra) m))) (xb.drop (og xb (roomB oa ra) m)) (rb - og xa (roomB ob rb) m) (ob || eNil (xa.drop (og xa (roomB ob rb) m))) (endsO xa ra oa xb rb ob m)) := by
  obtain ⟨h1, h2⟩ := ends_both (xa := xa) (xb := xb) (ra := ra) (rb := rb) (oa := oa) (ob := ob) (m := m)
  have hl : ((endsP xa ra oa xb rb ob []).lost 0 || (endsP xa ra oa xb rb ob []).lost 2) = false := rfl
  have hk : (endsP xa ra oa xb rb ob []).lookedE 0 2 m = 0 := pair_looked m hm
  unfold PortM.stepA PortM.stepped
  rw [hk, hl, if_pos rfl, if_pos rfl, if_neg (by decide), if_neg (by decide), Int.toNat_natCast, h1, h2]
  generalize xa.drop (og xa (roomB ob rb) m) = xa1
  generalize xb.drop (og xb (roomB oa ra) m) = xb1
  generalize endsO xa ra oa xb rb ob m = os
  have ho : (endsP xa1 (ra - og xb (roomB oa ra) m) (oa || eNil xb1) xb1 (rb - og xa (roomB ob rb) m) (ob || eNil xa1) os).over 0 2 = (eNil xa1 && eNil xb1) := rfl
  rw [ho]
  refine ⟨rfl, ?_⟩
  by_cases hh : (eNil xa1 && eNil xb1) = true
  · rw [if_pos hh, if_pos hh]
    have hq : eNil xa1 = true ∧ eNil xb1 = true := by simpa using hh
    rw [hq.1, hq.2, Bool.or_true, Bool.or_true]
    rfl
  · rw [if_neg hh, if_neg hh]
end

/-! ### What went out, counted -/
def sentTo (en : Int) : List OutM → Nat
  | [] => 0
  | o :: r => (if o.kind = 2 ∧ o.en = en then o.data.size else 0) + sentTo en r
def finTo (en : Int) : List OutM → Bool
  | [] => false
  | o :: r => (o.kind == 3 && o.en == en) || finTo en r
theorem sentTo_append (en : Int) (a b : List OutM) : sentTo en (a ++ b) = sentTo en a + sentTo en b := by
  induction a with
  | nil => simp [sentTo]
  | cons o r ih => simp only [List.cons_append, sentTo, ih]; omega
theorem finTo_append (en : Int) (a b : List OutM) : finTo en (a ++ b) = (finTo en a || finTo en b) := by
  induction a with
  | nil => simp [finTo]
  | cons o r ih => simp only [List.cons_append, finTo, ih, Bool.or_assoc]
theorem sentTo_pre (en : Int) (os : List OutM) (k : Nat) : sentTo en (os.take k) ≤ sentTo en os := by
  have h := sentTo_append en (os.take k) (os.drop k)
  rw [List.take_append_drop] at h
  omega
theorem sentTo_take {en : Int} {os : List OutM} {k : Nat} {o : OutM} (h : os[k]? = some o) : sentTo en (os.take (k + 1)) = sentTo en (os.take k) + (if o.kind = 2 ∧ o.en = en then o.data.size else 0) := by
  rw [List.take_add_one, h, sentTo_append]; simp [sentTo]
theorem finTo_take {en : Int} {os : List OutM} {k : Nat} {o : OutM} (h : os[k]? = some o) : finTo en (os.take (k + 1)) = (finTo en (os.take k) || (o.kind == 3 && o.en == en)) := by
  rw [List.take_add_one, h, finTo_append]; simp [finTo]

/-- No data behind an end, and nothing but data and ends at both. -/
def goodO (f0 f2 : Bool) (os : List OutM) : Prop := ∀ (j : Nat) (o : OutM), os[j]? = some o →
  (o.kind = 2 ∧ ((o.en = 0 ∧ (f0 || finTo 0 (os.take j)) = false) ∨ (o.en = 2 ∧ (f2 || finTo 2 (os.take j)) = false))) ∨ (o.kind = 3 ∧ (o.en = 0 ∨ o.en = 2))
theorem goodO_nil (f0 f2 : Bool) : goodO f0 f2 [] := fun j o h => by simp at h
theorem goodO_snoc {f0 f2 : Bool} {os : List OutM} {o : OutM} (h : goodO f0 f2 os)
    (ho : (o.kind = 2 ∧ ((o.en = 0 ∧ (f0 || finTo 0 os) = false) ∨ (o.en = 2 ∧ (f2 || finTo 2 os) = false))) ∨ (o.kind = 3 ∧ (o.en = 0 ∨ o.en = 2))) : goodO f0 f2 (os ++ [o]) := by
  intro j x hx
  by_cases hj : j < os.length
  · rw [List.getElem?_append_left hj] at hx
    rw [List.take_append_of_le_length (by omega)]
    exact h j x hx
  · have hl := (List.getElem?_eq_some_iff.1 hx).1
    rw [List.length_append] at hl
    simp at hl
    obtain rfl : j = os.length := by omega
    rw [List.getElem?_append_right (Nat.le_refl _), Nat.sub_self] at hx
    cases hx
    rw [List.take_append_of_le_length (Nat.le_refl _), List.take_length]
    exact ho

theorem payO_one {en : Int} {n : Nat} {ys : List UInt8} {os : List OutM} (en' : Int) (hy : ys.length = n) : sentTo en' (payO en n ys os) = sentTo en' os + (if en = en' then n else 0) ∧ finTo en' (payO en n ys os) = finTo en' os := by
  unfold payO
  by_cases h : n = 0
  · rw [if_pos h, h]; simp
  · rw [if_neg h, sentTo_append, finTo_append]
    have : (strB ys).size = n := hy
    simp [sentTo, finTo, this]
theorem finX_one {en : Int} {c : Bool} {os : List OutM} (en' : Int) : sentTo en' (finX en c os) = sentTo en' os ∧ finTo en' (finX en c os) = (finTo en' os || (c && en == en')) := by
  unfold finX
  cases c
  · simp
  · simp [sentTo_append, finTo_append, sentTo, finTo]

theorem roomB_og {xs : List UInt8} {o : Bool} {r m : Nat} (h : ¬ og xs (roomB o r) m = 0) : o = false := by
  cases o
  · rfl
  · exfalso; apply h; unfold og roomB; simp
theorem og_le (xs : List UInt8) (r m : Nat) : og xs r m ≤ xs.length := by unfold og; omega

theorem ends_told (xa : List UInt8) (ra : Nat) (oa : Bool) (xb : List UInt8) (rb : Nat) (ob : Bool) (m : Nat) :
    sentTo 2 (endsO xa ra oa xb rb ob m) = og xa (roomB ob rb) m ∧ sentTo 0 (endsO xa ra oa xb rb ob m) = og xb (roomB oa ra) m ∧
    finTo 2 (endsO xa ra oa xb rb ob m) = (eNil (xa.drop (og xa (roomB ob rb) m)) && !ob) ∧ finTo 0 (endsO xa ra oa xb rb ob m) = (eNil (xb.drop (og xb (roomB oa ra) m)) && !oa) ∧ goodO oa ob (endsO xa ra oa xb rb ob m) ∧ (endsO xa ra oa xb rb ob m).length ≤ 4 := by
  have l1 : (xa.take (og xa (roomB ob rb) m)).length = og xa (roomB ob rb) m := by rw [List.length_take]; have := og_le xa (roomB ob rb) m; omega
  have l2 : (xb.take (og xb (roomB oa ra) m)).length = og xb (roomB oa ra) m := by rw [List.length_take]; have := og_le xb (roomB oa ra) m; omega
  have r1 := fun h => roomB_og (xs := xa) (o := ob) (r := rb) (m := m) h
  have r2 := fun h => roomB_og (xs := xb) (o := oa) (r := ra) (m := m) h
  unfold endsO
  generalize og xa (roomB ob rb) m = n1 at *
  generalize og xb (roomB oa ra) m = n2 at *
  generalize (eNil (xa.drop n1) && !ob) = c1
  generalize (eNil (xb.drop n2) && !oa) = c2
  refine ⟨?_, ?_, ?_, ?_, ?_, ?_⟩
  · rw [(finX_one 2).1, (payO_one 2 l2).1, (finX_one 2).1, (payO_one 2 l1).1]; simp [sentTo]
  · rw [(finX_one 0).1, (payO_one 0 l2).1, (finX_one 0).1, (payO_one 0 l1).1]; simp [sentTo]
  · rw [(finX_one 2).2, (payO_one 2 l2).2, (finX_one 2).2, (payO_one 2 l1).2]; simp [finTo]
  · rw [(finX_one 0).2, (payO_one 0 l2).2, (finX_one 0).2, (payO_one 0 l1).2]; simp [finTo]
  · have gA : goodO oa ob (payO 2 n1 (xa.take n1) []) := by
      unfold payO
      by_cases h : n1 = 0
      · rw [if_pos h]; exact goodO_nil _ _
      · rw [if_neg h]
        exact goodO_snoc (goodO_nil _ _) (Or.inl ⟨rfl, Or.inr ⟨rfl, by rw [r1 h]; rfl⟩⟩)
    have gB : goodO oa ob (finX 2 c1 (payO 2 n1 (xa.take n1) [])) := by
      unfold finX
      cases c1
      · exact gA
      · exact goodO_snoc gA (Or.inr ⟨rfl, Or.inr rfl⟩)
    have fB : finTo 0 (finX 2 c1 (payO 2 n1 (xa.take n1) [])) = false := by
      rw [(finX_one 0).2, (payO_one 0 l1).2]; simp [finTo]
    have gC : goodO oa ob (payO 0 n2 (xb.take n2) (finX 2 c1 (payO 2 n1 (xa.take n1) []))) := by
      rw [payO]
      by_cases h : n2 = 0
      · rw [if_pos h]; exact gB
      · rw [if_neg h]
        exact goodO_snoc gB (Or.inl ⟨rfl, Or.inl ⟨rfl, by rw [r2 h, fB]; rfl⟩⟩)
    rw [finX]
    cases c2
    · exact gC
    · exact goodO_snoc gC (Or.inr ⟨rfl, Or.inl rfl⟩)
  · have f : ∀ en c os, (finX en c os).length ≤ os.length + 1 := fun en c os => by unfold finX; split <;> simp
    have p : ∀ en n ys os, (payO en n ys os).length ≤ os.length + 1 := fun en n ys os => by unfold payO; split <;> simp
    have h1 := f 0 c2 (payO 0 n2 (xb.take n2) (finX 2 c1 (payO 2 n1 (xa.take n1) [])))
    have h2 := p 0 n2 (xb.take n2) (finX 2 c1 (payO 2 n1 (xa.take n1) []))
    have h3 := f 2 c1 (payO 2 n1 (xa.take n1) [])
    have h4 := p 2 n1 (xa.take n1) []
    simp at h4
    omega

end Go.Proofs.Ytnbhgfnjnccakaa
