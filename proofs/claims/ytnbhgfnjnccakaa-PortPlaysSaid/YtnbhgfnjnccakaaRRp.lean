/- The relay's moves, looked at one endpoint at a time: plain words, no Go text is walked here. -/
import Derived.Test.YtnbhgfnjnccakaaRP9
namespace Go.Proofs.Ytnbhgfnjnccakaa
open Go Go.RowKit
set_option linter.unusedVariables false

section
variable {p : PortM}

theorem at?_setEnd {i : Nat} {e : EndM} (hi : i < p.ends.length) (k : Int) : (p.setEnd i e).at? k = if k = i then some e else p.at? k := by
  unfold PortM.at? PortM.setEnd
  by_cases h0 : k < 0
  · rw [if_pos h0, if_pos h0, if_neg (by omega)]
  · rw [if_neg h0, if_neg h0]
    by_cases hk : k = i
    · subst hk
      rw [if_pos rfl, Int.toNat_natCast, List.getElem?_set_self hi]
    · rw [if_neg hk, List.getElem?_set_ne (by omega)]
theorem at?_lt {k : Int} {e : EndM} (h : p.at? k = some e) : k.toNat < p.ends.length ∧ (k.toNat : Int) = k := by
  unfold PortM.at? at h
  split at h
  · cases h
  · exact ⟨(List.getElem?_eq_some_iff.1 h).1, by omega⟩
theorem at?_outs {os : List OutM} (k : Int) : ({ p with outs := os } : PortM).at? k = p.at? k := rfl

theorem at?_taken (f n k : Int) : (p.taken f n).at? k = if k = f then (p.at? f).map (fun e => { e with xs := e.xs.drop n.toNat }) else p.at? k := by
  unfold PortM.taken
  cases hf : p.at? f with
  | none =>
    simp only [Option.map_none]
    split
    · rename_i h; rw [h, hf]
    · rfl
  | some e =>
    obtain ⟨h1, h2⟩ := at?_lt hf
    simp only [Option.map_some]
    rw [at?_setEnd h1, h2]
theorem at?_sent (t : Int) (bs : List UInt8) (k : Int) : (p.sent t bs).at? k = if k = t then (p.at? t).map (fun e => { e with room := e.room - p.sendN t bs }) else p.at? k := by
  unfold PortM.sent
  cases hf : p.at? t with
  | none =>
    simp only [Option.map_none]
    split
    · rename_i h; rw [h, hf]
    · rfl
  | some e =>
    obtain ⟨h1, h2⟩ := at?_lt hf
    simp only [Option.map_some]
    by_cases h0 : p.sendN t bs = 0
    · rw [if_pos h0, h0]
      split
      · rename_i h; rw [h, hf]; rfl
      · rfl
    · rw [if_neg h0]
      have := at?_setEnd (p := p) (e := { e with room := e.room - p.sendN t bs }) h1 k
      rw [h2] at this
      exact this
def EndM.end1 (e : EndM) : EndM := if e.st = 1 ∧ e.ours = false then { e with ours := true } else e
theorem at?_fined (t k : Int) : (p.fined t).at? k = if k = t then (p.at? t).map EndM.end1 else p.at? k := by
  unfold PortM.fined
  cases hf : p.at? t with
  | none =>
    simp only [Option.map_none]
    split
    · rename_i h; rw [h, hf]
    · rfl
  | some e =>
    obtain ⟨h1, h2⟩ := at?_lt hf
    simp only [Option.map_some]
    unfold EndM.end1
    by_cases h0 : e.st = 1 ∧ e.ours = false
    · rw [if_pos h0, if_pos h0]
      have := at?_setEnd (p := p) (e := { e with ours := true }) h1 k
      rw [h2] at this
      exact this
    · rw [if_neg h0, if_neg h0]
      split
      · rename_i h; rw [h, hf]
      · rfl

theorem ended_of {q : PortM} {k : Int} (h : (p.at? k).map (fun e => (e.st, e.theirs, e.xs.length)) = (q.at? k).map (fun e => (e.st, e.theirs, e.xs.length))) : p.ended k = q.ended k := by
  unfold PortM.ended PortM.last PortM.waiting
  cases h1 : p.at? k <;> cases h2 : q.at? k <;> rw [h1, h2] at h <;> simp at h ⊢
  obtain ⟨a, b, c⟩ := h
  rw [a, b, c]
theorem ended_fined (t k : Int) : (p.fined t).ended k = p.ended k := by
  refine ended_of ?_
  rw [at?_fined]
  by_cases h : k = t
  · subst h
    rw [if_pos rfl, Option.map_map]
    congr 1
    funext e
    simp only [Function.comp, EndM.end1]
    split <;> rfl
  · rw [if_neg h]
theorem ended_sent (t : Int) (bs : List UInt8) (k : Int) : (p.sent t bs).ended k = p.ended k := by
  refine ended_of ?_
  rw [at?_sent]
  by_cases h : k = t
  · subst h
    rw [if_pos rfl, Option.map_map]
    rfl
  · rw [if_neg h]
theorem ended_taken {f k : Int} (n : Int) (h : k ≠ f) : (p.taken f n).ended k = p.ended k := by
  refine ended_of ?_
  rw [at?_taken, if_neg h]
theorem ended_finIf (f t k : Int) : (p.finIf f t).ended k = p.ended k := by
  unfold PortM.finIf
  split
  · exact ended_fined t k
  · rfl

/-- This side has ended there. -/
def PortM.oursOf (p : PortM) (k : Int) : Bool := match p.at? k with | some e => e.ours | none => false
theorem ours_fined {t : Int} {e : EndM} (h : p.at? t = some e) (hs : e.st = 1) : (p.fined t).oursOf t = true := by
  unfold PortM.oursOf
  rw [at?_fined, if_pos rfl, h]
  simp only [Option.map_some, EndM.end1]
  by_cases h0 : e.ours = false
  · rw [if_pos ⟨hs, h0⟩]
  · rw [if_neg (fun hh => h0 hh.2)]
    simpa using h0
theorem ours_fined_ne {t k : Int} (h : k ≠ t) : (p.fined t).oursOf k = p.oursOf k := by
  unfold PortM.oursOf; rw [at?_fined, if_neg h]
theorem ours_sent (t : Int) (bs : List UInt8) (k : Int) : (p.sent t bs).oursOf k = p.oursOf k := by
  unfold PortM.oursOf
  rw [at?_sent]
  by_cases h : k = t
  · subst h
    rw [if_pos rfl]
    cases p.at? k <;> rfl
  · rw [if_neg h]
theorem ours_taken (f n k : Int) : (p.taken f n).oursOf k = p.oursOf k := by
  unfold PortM.oursOf
  rw [at?_taken]
  by_cases h : k = f
  · subst h
    rw [if_pos rfl]
    cases p.at? k <;> rfl
  · rw [if_neg h]
theorem ended_st {k : Int} (h : p.ended k = true) : ∃ e, p.at? k = some e ∧ e.st = 1 := by
  unfold PortM.ended PortM.last at h
  cases hk : p.at? k with
  | none => rw [hk] at h; simp at h
  | some e =>
    rw [hk] at h
    simp at h
    exact ⟨e, rfl, h.1.1⟩

/-- Where both have ended behind a step, both ends were handed on. -/
theorem over_ours {a c : Int} (hac : a ≠ c) (m : Nat) (h : (p.both2 a c m).over a c = true) : (p.both2 a c m).oursOf a = true ∧ (p.both2 a c m).oursOf c = true := by
  unfold PortM.over at h
  have h : (p.both2 a c m).ended a = true ∧ (p.both2 a c m).ended c = true := by simpa using h
  unfold PortM.both2 PortM.handed at *
  rw [ended_finIf, ended_finIf] at h
  obtain ⟨ha, hc⟩ := h
  have hfin : ((p.both1 a c m).hand2 c a m).finIf c a = ((p.both1 a c m).hand2 c a m).fined a := finIf_t hc
  rw [hfin]
  obtain ⟨ea, hea, hsa⟩ := ended_st ha
  refine ⟨ours_fined hea hsa, ?_⟩
  rw [ours_fined_ne (fun e => hac e.symm)]
  unfold PortM.hand2
  rw [ours_sent, ours_taken]
  unfold PortM.hand2 at ha hc
  rw [ended_sent, ended_taken _ hac] at ha
  rw [ended_sent] at hc
  unfold PortM.both1 PortM.handed at *
  rw [ended_finIf] at ha
  rw [finIf_t ha]
  obtain ⟨ec, hec, hsc⟩ := ended_st hc
  rw [at?_taken, if_pos rfl, finIf_t ha, at?_fined, if_pos rfl] at hec
  cases hq : (p.hand2 a c m).at? c with
  | none => rw [hq] at hec; cases hec
  | some e =>
    rw [hq] at hec
    simp only [Option.map_some, Option.some.injEq] at hec
    subst hec
    have : e.st = 1 := by
      unfold EndM.end1 at hsc
      split at hsc
      · exact hsc
      · exact hsc
    exact ours_fined hq this

/-! ### The document's move is the relay's -/
theorem takeB_min {f : Int} {e : EndM} (h : p.at? f = some e) (k : Nat) : p.takeB f ((min k e.xs.length : Nat) : Int) = p.takeB f (k : Int) := by
  unfold PortM.takeB
  rw [h]
  simp only [Int.toNat_natCast]
  rw [List.take_eq_take_iff]; omega
theorem taken_min {f : Int} {e : EndM} (h : p.at? f = some e) (k : Nat) : p.taken f ((min k e.xs.length : Nat) : Int) = p.taken f (k : Int) := by
  unfold PortM.taken
  rw [h]
  simp only [Int.toNat_natCast]
  by_cases hk : k ≤ e.xs.length
  · rw [Nat.min_eq_left hk]
  · rw [Nat.min_eq_right (by omega), List.drop_length, List.drop_eq_nil_of_le (by omega)]
theorem room_taken (f n t : Int) : (p.taken f n).roomOf t = p.roomOf t := by
  unfold PortM.roomOf
  rw [at?_taken]
  by_cases h : t = f
  · subst h
    rw [if_pos rfl]
    cases p.at? t <;> rfl
  · rw [if_neg h]
theorem handN_eq {f t : Int} {e : EndM} (h : p.at? f = some e) (m : Nat) : p.handN f t m = min (min m e.xs.length) (p.roomOf t) := by
  unfold PortM.handN PortM.sendN
  rw [room_taken]
  unfold PortM.handK PortM.takeB
  rw [h]
  simp only [Int.toNat_natCast, List.length_take]
  omega
theorem hand2_eq {f t : Int} {e : EndM} (h : p.at? f = some e) (m : Nat) : p.hand2 f t m = (p.taken f ((p.handN f t m : Nat) : Int)).sent t (p.takeB f ((p.handN f t m : Nat) : Int)) := by
  have e1 : p.handN f t m = min (min m (p.roomOf t)) e.xs.length := by rw [handN_eq h]; omega
  rw [e1, taken_min h, takeB_min h]
  rfl
theorem fined_same {t : Int} {e : EndM} (h : p.at? t = some e) (hn : ¬ (e.st = 1 ∧ e.ours = false)) : p.fined t = p := by
  unfold PortM.fined; rw [h]; simp only []; rw [if_neg hn]
end

end Go.Proofs.Ytnbhgfnjnccakaa
