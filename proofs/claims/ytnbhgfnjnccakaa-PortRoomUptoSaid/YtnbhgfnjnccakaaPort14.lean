/- What goes out at an endpoint is never more than its room: the walk of the law PortRoom, for no more than 2^20 sends. -/
import Derived.Test.YtnbhgfnjnccakaaPort13
import Derived.Deep.DeepCutAuto
namespace Go.Proofs.Ytnbhgfnjnccakaa
open Go Go.RowKit
set_option linter.unusedVariables false

/-- The bytes that outputs tell. -/
def toldB (os : List OutM) : List UInt8 := os.flatMap fun o => if o.kind = 2 then o.data.data.toList else []
theorem toldB_append (a c : List OutM) : toldB (a ++ c) = toldB a ++ toldB c := by simp [toldB]

/-- What holds between two steps: given so much, gone these bytes; over: this side has ended. -/
structure RoomRel (w : World) (b : Nat) (fin : Int) (k m f given : Nat) (gone : List UInt8) (over : Bool) (wr : World) : Prop where
  ex : ∃ l room os, PortAt wr w.heap.size b l ⟨1, 8, [⟨[], 1, room, true, false, over⟩], [], os⟩ ∧ room + gone.length = given ∧ toldB os = gone ∧ os.length ≤ m
  le : given ≤ 5000 * k
  once : over = true → fin < f
  upd : Upd [] w wr

section
variable {w : World} {b : Nat} {fin : Int} {k m f given : Nat} {gone : List UInt8} {over : Bool} {wr : World}

theorem RoomRel.room (h : RoomRel w b fin k m f given gone over wr) (c : Nat) (hc : c ≤ 5000) (hk : k ≤ 1048576) :
    Calls Try.prog 17 #[.pointer (some ⟨b, 0, none⟩), evV 5 0 c [] none 0 0] wr fun e w' => e = .returned (.tuple #[.int .i64 0, .int .i64 0]) ∧ RoomRel w b fin (k + 1) m f (given + c) gone over w' := by
  obtain ⟨⟨l, room, os, hP, h1, h2, h3⟩, hle, ho, hU⟩ := h
  have hE := ev_room_ok c [] none 0 0 (i := 0) hP rfl rfl
  refine hE.mono ?_
  rintro e w' ⟨rfl, hp⟩
  have hm : room + min c (1099511627776 - room) = room + c := by omega
  have hp1 : PortAt w' w.heap.size b l ⟨1, 8, [⟨[], 1, room + min c (1099511627776 - room), true, false, over⟩], [], os⟩ := hp.1
  rw [hm] at hp1
  exact ⟨rfl, ⟨l, room + c, os, hp1, by omega, h2, h3⟩, by omega, ho, hP.below hp.2 hU (Nat.le_refl _)⟩

theorem RoomRel.more (h : RoomRel w b fin k m f given gone over wr) {k' m' f' : Nat} (hk : k ≤ k') (hm : m ≤ m') (hf : f ≤ f') : RoomRel w b fin k' m' f' given gone over wr := by
  obtain ⟨⟨l, room, os, hP, h1, h2, h3⟩, hle, ho, hU⟩ := h
  exact ⟨⟨l, room, os, hP, h1, h2, by omega⟩, by omega, fun h => by have := ho h; omega, hU⟩

theorem RoomRel.end1 (h : RoomRel w b fin k m f given gone false wr) (hm : m ≤ 4194304) (f' : Nat) (hf : fin < f') :
    Calls Try.prog 22 #[.pointer (some ⟨b, 0, none⟩), .int .i64 0] wr fun e w' => e = .returned (.int .i64 0) ∧ RoomRel w b fin k (m + 1) f' given gone true w' := by
  obtain ⟨⟨l, room, os, hP, h1, h2, h3⟩, hle, ho, hU⟩ := h
  refine (pt_fin 0 hP (by show os.length < _; omega)).mono ?_
  rintro e w' ⟨rfl, l', hP', hu, _⟩
  have hP1 : PortAt w' w.heap.size b l' ⟨1, 8, [⟨[], 1, room, true, false, true⟩], [], os ++ [⟨3, 0, .empty, DestM.zero⟩]⟩ := hP'
  refine ⟨rfl, ⟨l', room, _, hP1, h1, ?_, by simp; omega⟩, hle, fun _ => hf, hP.below hu hU (Nat.le_refl _)⟩
  rw [toldB_append, h2]
  simp [toldB]

theorem RoomRel.end2 (h : RoomRel w b fin k m f given gone true wr) (hm : m ≤ 4194304) :
    Calls Try.prog 22 #[.pointer (some ⟨b, 0, none⟩), .int .i64 0] wr fun e w' => e = .returned (.int .i64 150) ∧ RoomRel w b fin k m f given gone true w' := by
  obtain ⟨⟨l, room, os, hP, h1, h2, h3⟩, hle, ho, hU⟩ := h
  refine (pt_fin 0 hP (by show os.length < _; omega)).mono ?_
  rintro e w' ⟨rfl, l', hP', hu, _⟩
  exact ⟨rfl, ⟨l', room, os, hP', h1, h2, h3⟩, hle, ho, hP.below hu hU (Nat.le_refl _)⟩

/-- What Send takes there. -/
def sendWant (given : Nat) (gone : List UInt8) (over : Bool) (bs : List UInt8) : Nat := if over then 0 else min bs.length (given - gone.length)

theorem RoomRel.send (h : RoomRel w b fin k m f given gone over wr) (hm : m ≤ 4194304) {v : Value} {bs : List UInt8} {w6 : World} (hku : Upd [] wr w6) (hrd : Rd w6 v bs) (hbl : bs.length ≤ 140737488355328) (hv : ∀ q, v.ownBlock = some q → wr.heap.size ≤ q) :
    Calls Try.prog 23 #[.pointer (some ⟨b, 0, none⟩), .int .i64 0, v] w6 fun e w' => e = .returned (.int .i64 (sendWant given gone over bs : Nat)) ∧ RoomRel w b fin k (m + 1) f given (gone ++ bs.take (sendWant given gone over bs)) over w' := by
  obtain ⟨⟨l, room, os, hP0, h1, h2, h3⟩, hle, ho, hU0⟩ := h
  have hP := hP0.upd hku (by simp)
  have hU := hU0.trans_same hku
  have hN : PortM.sendN ⟨1, 8, [⟨[], 1, room, true, false, over⟩], [], os⟩ 0 bs = sendWant given gone over bs := by
    show min (EndM.roomN ⟨[], 1, room, true, false, over⟩) bs.length = _
    unfold EndM.roomN sendWant
    cases over
    · rw [if_pos ⟨rfl, rfl⟩]
      show min room _ = min _ _
      omega
    · rw [if_neg (by simp)]
      simp
  refine (pt_send 0 hP hrd hbl (fun q hq => hP0.fresh (hv q hq)) (by show os.length < _; omega)).mono ?_
  rintro e w' ⟨rfl, l', hP', hu, _⟩
  rw [hN]
  refine ⟨rfl, ?_, hle, ho, hP.below hu hU (Nat.le_refl _)⟩
  have hS : PortM.sent ⟨1, 8, [⟨[], 1, room, true, false, over⟩], [], os⟩ 0 bs = if sendWant given gone over bs = 0 then ⟨1, 8, [⟨[], 1, room, true, false, over⟩], [], os⟩ else ⟨1, 8, [⟨[], 1, room - sendWant given gone over bs, true, false, over⟩], [], os ++ [⟨2, 0, strB (bs.take (sendWant given gone over bs)), DestM.zero⟩]⟩ := by
    rw [← hN]; rfl
  rw [hS] at hP'
  by_cases h0 : sendWant given gone over bs = 0
  · rw [if_pos h0] at hP'
    refine ⟨l', room, os, hP', ?_, ?_, by omega⟩
    · rw [h0]; simpa using h1
    · rw [h0, h2]; simp
  · rw [if_neg h0] at hP'
    have hw : sendWant given gone over bs ≤ room ∧ sendWant given gone over bs ≤ bs.length := by
      unfold sendWant at h0 ⊢
      cases over
      · simp only [Bool.false_eq_true, if_false]; omega
      · simp at h0
    refine ⟨l', _, _, hP', ?_, ?_, by simp; omega⟩
    · rw [List.length_append, List.length_take]; omega
    · rw [toldB_append, h2]
      congr 1
      simp [toldB, strB]
end

end Go.Proofs.Ytnbhgfnjnccakaa
