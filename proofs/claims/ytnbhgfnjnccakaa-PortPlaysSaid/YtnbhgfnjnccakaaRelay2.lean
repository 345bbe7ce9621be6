/- The walks of the relay's Move, Stop, Step. -/
import Derived.Test.YtnbhgfnjnccakaaRelay1
import Derived.Test.YtnbhgfnjnccakaaPort16
import Derived.OwnWalk
namespace Go.Proofs.Ytnbhgfnjnccakaa
open Go Go.RowKit
set_option linter.unusedVariables false

@[go_sem] theorem idx2_0 (a c : Int) (w : World) : (Instr.index 73 (.agg #[.int .i64 a, .int .i64 c]) (.int .i64 0)).run Try.prog w = .ok (.int .i64 a) w := by kernel_rfl
@[go_sem] theorem idx2_1 (a c : Int) (w : World) : (Instr.index 73 (.agg #[.int .i64 a, .int .i64 c]) (.int .i64 1)).run Try.prog w = .ok (.int .i64 c) w := by kernel_rfl
@[go_sem] theorem idx22_0 (a c d e : Int) (w : World) : (Instr.index 125 (.agg #[.int .i64 a, .int .i64 c, .int .i64 d, .int .i64 e]) (.int .i64 0)).run Try.prog w = .ok (.agg #[.int .i64 a, .int .i64 c]) w := by kernel_rfl
@[go_sem] theorem idx22_1 (a c d e : Int) (w : World) : (Instr.index 125 (.agg #[.int .i64 a, .int .i64 c, .int .i64 d, .int .i64 e]) (.int .i64 1)).run Try.prog w = .ok (.agg #[.int .i64 d, .int .i64 e]) w := by kernel_rfl

section
variable {w w1 w2 : World} {base b : Nat} {l : PLay} {p p1 p2 : PortM}

theorem PPost.trans (h : PPost w base b l p1 w1) (h' : ∀ l1, PortAt w1 base b l1 p1 → PPost w1 base b l1 p2 w2) : PPost w base b l p2 w2 := by
  obtain ⟨l1, hP, hU, hW⟩ := h
  obtain ⟨l2, hP2, hU2, hW2⟩ := h' l1 hP
  exact ⟨l2, hP2, hU.trans hW hU2, Within.trans hU hW hW2⟩
theorem PPost.refl (h : PortAt w base b l p) : PPost w base b l p w := ⟨l, h, Upd.refl _ _, Within.refl _ _⟩
theorem PPost.up (h : PPost w base b l p w1) (hu : Upd [] w1 w2) : PPost w base b l p w2 := by
  obtain ⟨l1, hP, hU, hW⟩ := h
  exact ⟨l1, hP.upd hu (by simp), hU.trans_same (hu.mono (by simp)), hW⟩

/-! ### What stays -/
theorem setEnd_lenE {i : Nat} {e : EndM} : (p.setEnd i e).ends.length = p.ends.length := by simp [PortM.setEnd]
theorem taken_len (k n : Int) : (p.taken k n).ends.length = p.ends.length := by
  unfold PortM.taken; split
  · exact setEnd_lenE
  · rfl
theorem sent_len (k : Int) (bs : List UInt8) : (p.sent k bs).ends.length = p.ends.length := by
  unfold PortM.sent; split
  · split
    · rfl
    · exact setEnd_lenE
  · rfl
theorem fined_len (k : Int) : (p.fined k).ends.length = p.ends.length := by
  unfold PortM.fined; split
  · rfl
  · split <;> simp [PortM.setEnd]
theorem closed_len (k : Int) : (p.closed k).ends.length = p.ends.length := by
  unfold PortM.closed; split
  · rfl
  · split
    · rfl
    · split <;> simp [PortM.setEnd, PortM.told]
theorem fined_outs (k : Int) : (p.fined k).outs.length ≤ p.outs.length + 1 := by
  unfold PortM.fined; split
  · omega
  · split <;> simp
theorem closed_outs (k : Int) : (p.closed k).outs.length ≤ p.outs.length + 1 := by
  unfold PortM.closed; split
  · omega
  · split
    · omega
    · split <;> simp [PortM.setEnd, PortM.told]
theorem finIf_len (k j : Int) : (p.finIf k j).ends.length = p.ends.length := by
  unfold PortM.finIf; split
  · exact fined_len _
  · rfl
theorem finIf_outs (k j : Int) : (p.finIf k j).outs.length ≤ p.outs.length + 1 := by
  unfold PortM.finIf; split
  · exact fined_outs _
  · omega
theorem handed_len (k j : Int) (m : Nat) : (p.handed k j m).ends.length = p.ends.length := by
  unfold PortM.handed PortM.hand2
  rw [finIf_len, sent_len, taken_len]
theorem handed_outs (k j : Int) (m : Nat) : (p.handed k j m).outs.length ≤ p.outs.length + 2 := by
  unfold PortM.handed PortM.hand2
  have h1 := finIf_outs (p := (p.taken k (p.handK j m)).sent j (p.takeB k (p.handK j m))) k j
  have h2 := sent_outs (p := p.taken k (p.handK j m)) j (p.takeB k (p.handK j m))
  have h3 := congrArg List.length (taken_outs (p := p) k (p.handK j m))
  omega
theorem there_len (h : p1.ends.length = p.ends.length) (k : Int) : p1.there k = p.there k := by
  unfold PortM.there PortM.at?
  split
  · rfl
  · rw [Bool.eq_iff_iff]; simp [h]
theorem handN_le (h : PortAt w base b l p) (k j : Int) (m : Nat) : p.handN k j m ≤ 65536 := by
  unfold PortM.handN PortM.sendN
  have : (p.takeB k (p.handK j m)).length ≤ 65536 := by
    unfold PortM.takeB
    rcases p.at?_cases k with ⟨hn, _⟩ | ⟨i, x, rfl, hx, hax, _⟩
    · rw [hn]; simp
    · rw [hax]
      have := (h.rings i x hx).fit
      show (x.xs.take _).length ≤ _
      rw [List.length_take]; omega
  omega
theorem lookedE_cases (a c most : Int) : p.lookedE a c most = 0 ∨ p.lookedE a c most = 2 := by
  unfold PortM.lookedE; split
  · exact Or.inl rfl
  · exact Or.inr rfl
theorem lookedE_ok {a c most : Int} : p.lookedE a c most = 0 ↔ p.there a = true ∧ p.there c = true ∧ a ≠ c ∧ 1 ≤ most := by
  unfold PortM.lookedE; split
  · rename_i h; exact iff_of_true rfl h
  · rename_i h; exact iff_of_false (by decide) h

/-! ### Move -/
def PortM.moveN (p : PortM) (a c most : Int) : Nat := if p.lookedE a c most = 0 then p.handN a c most.toNat else 0
def PortM.moved (p : PortM) (a c most : Int) : PortM := if p.lookedE a c most = 0 then p.handed a c most.toNat else p

set_option maxHeartbeats 1000000 in
set_option maxRecDepth 100000 in
theorem rl_move (a c most : Int) (h : PortAt w base b l p) (hlen : p.outs.length < 1000000000000) :
    Calls Try.prog 40 #[.pointer (some ⟨b, 0, none⟩), .int .i64 a, .int .i64 c, .int .i64 most] w fun e w' => e = .returned (.tuple #[.int .i64 (p.moveN a c most : Nat), .int .i64 (p.lookedE a c most : Nat)]) ∧ PPost w base b l (p.moved a c most) w' := by
  have hL := rl_looked a c most h
  rcases lookedE_cases (p := p) a c most with h0 | h0
  · have e1 : p.moveN a c most = p.handN a c most.toNat := if_pos h0
    have e2 : p.moved a c most = p.handed a c most.toNat := if_pos h0
    obtain ⟨_, _, _, hm⟩ := lookedE_ok.1 h0
    obtain ⟨m, rfl⟩ := Int.eq_ofNat_of_zero_le (show 0 ≤ most by omega)
    rw [e1, e2, h0, Int.toNat_natCast]
    rw [h0] at hL
    have hH := rl_hand a c m h hlen
    clear e1 e2 h0 hm
    go_enter Try.func40, Try.ntmps40
    go_wp2_with fail
    refine hL.mono ?_
    rintro e w' ⟨rfl, rfl⟩
    go_wp2_with fail
    refine hH.mono ?_
    rintro e w3 ⟨rfl, hp⟩
    go_wp2_with fail
    go_ret2
    exact ⟨rfl, hp⟩
  · have e1 : p.moveN a c most = 0 := if_neg (by omega)
    have e2 : p.moved a c most = p := if_neg (by omega)
    rw [e1, e2, h0]
    rw [h0] at hL
    clear e1 e2 h0
    go_enter Try.func40, Try.ntmps40
    go_wp2_with fail
    refine hL.mono ?_
    rintro e w' ⟨rfl, rfl⟩
    go_wp2_with fail
    go_ret2
    exact ⟨rfl, PPost.refl h⟩

/-! ### Stop -/
def PortM.stopped (p : PortM) (a c : Int) : PortM := if p.lookedE a c 1 = 0 then (p.closed a).closed c else p
def PortM.stopK (p : PortM) (a c : Int) : Nat → PortM
  | 0 => p
  | 1 => p.closed a
  | _ => (p.closed a).closed c

set_option maxHeartbeats 1000000 in
set_option maxRecDepth 100000 in
theorem rl_stop (a c : Int) (h : PortAt w base b l p) (hlen : p.outs.length < 1000000000000) :
    Calls Try.prog 42 #[.pointer (some ⟨b, 0, none⟩), .int .i64 a, .int .i64 c] w fun e w' => e = .returned (.int .i64 (p.lookedE a c 1 : Nat)) ∧ PPost w base b l (p.stopped a c) w' := by
  have hL := rl_looked a c 1 h
  rcases lookedE_cases (p := p) a c 1 with h0 | h0
  · have e2 : p.stopped a c = p.stopK a c 2 := if_pos h0
    rw [e2, h0]
    rw [h0] at hL
    clear e2 h0
    go_enter Try.func42, Try.ntmps42
    go_wp2_with fail
    refine hL.mono ?_
    rintro e w' ⟨rfl, rfl⟩
    go_wp2_with fail
    go_loopw [19] (fun i wr => ∃ k : Nat, k ≤ 2 ∧ i = .int .i64 k ∧ PPost w base b l (p.stopK a c k) wr) (fun i _ => 2 - (intOf i).toNat)
    case atStart => exact ⟨0, Nat.zero_le _, rfl, PPost.refl h⟩
    case round =>
      obtain ⟨k, hk, rfl, hp⟩ := hrel
      obtain ⟨l1, hP, hU, hW⟩ := hp
      have co := closed_outs (p := p) a
      rcases (show k = 0 ∨ k = 1 ∨ k = 2 by omega) with rfl | rfl | rfl
      · have hC := pt_close a hP (by show p.outs.length < _; omega)
        go_wp2_with fail
        refine hC.mono ?_
        rintro e w3 ⟨rfl, l3, hP3, hU3, hW3⟩
        go_wp2_with fail
        go_roundw
        case rel => exact ⟨1, by decide, rfl, l3, hP3, hU.trans hW hU3, Within.trans hU hW hW3⟩
        case measure => simp [intOf]
      · have hC := pt_close c hP (by show (p.closed a).outs.length < _; omega)
        go_wp2_with fail
        refine hC.mono ?_
        rintro e w3 ⟨rfl, l3, hP3, hU3, hW3⟩
        go_wp2_with fail
        go_roundw
        case rel => exact ⟨2, by decide, rfl, l3, hP3, hU.trans hW hU3, Within.trans hU hW hW3⟩
        case measure => simp [intOf]
      · go_wp2_with fail
        go_ret
        exact ⟨rfl, l1, hP, hU, hW⟩
  · have e2 : p.stopped a c = p := if_neg (by omega)
    rw [e2, h0]
    rw [h0] at hL
    clear e2 h0
    go_enter Try.func42, Try.ntmps42
    go_wp2_with fail
    refine hL.mono ?_
    rintro e w' ⟨rfl, rfl⟩
    go_wp2_with fail
    go_ret
    exact ⟨rfl, PPost.refl h⟩

/-! ### Step -/
def PortM.lost (p : PortM) (k : Int) : Bool := (p.state k).1 == 3 || (p.state k).1 == 0
/-- Both hands. -/
def PortM.both1 (p : PortM) (a c : Int) (m : Nat) : PortM := p.handed a c m
def PortM.both2 (p : PortM) (a c : Int) (m : Nat) : PortM := (p.both1 a c m).handed c a m
def PortM.bothN (p : PortM) (a c : Int) (m : Nat) : Nat := p.handN a c m + (p.both1 a c m).handN c a m
def PortM.over (p : PortM) (a c : Int) : Bool := p.ended a && p.ended c
def PortM.stepA (p : PortM) (a c most : Int) : Nat × Bool × Nat :=
  if p.lookedE a c most = 0 then (if p.lost a || p.lost c then (0, true, 0) else (p.bothN a c most.toNat, (p.both2 a c most.toNat).over a c, 0)) else (0, false, 2)
def PortM.stepped (p : PortM) (a c most : Int) : PortM :=
  if p.lookedE a c most = 0 then (if p.lost a || p.lost c then p.stopped a c else if (p.both2 a c most.toNat).over a c then (p.both2 a c most.toNat).stopped a c else p.both2 a c most.toNat) else p

def PortM.stepK (p : PortM) (a c : Int) (m : Nat) : Nat → PortM
  | 0 => p
  | 1 => p.both1 a c m
  | _ => p.both2 a c m
def PortM.stepN (p : PortM) (a c : Int) (m : Nat) : Nat → Nat
  | 0 => 0
  | 1 => p.handN a c m
  | _ => p.bothN a c m
theorem lost_state {k : Int} (h : p.lost k = false) : ¬ ((p.state k).1 : Int) = 3 ∧ ¬ ((p.state k).1 : Int) = 0 ∧ (((p.state k).1 : Int) == 3) = false ∧ (((p.state k).1 : Int) == 0) = false := by
  unfold PortM.lost at h
  simp at h
  refine ⟨by omega, by omega, by simp; omega, by simp; omega⟩
theorem lost_state' {k : Int} (h : p.lost k = true) : (p.state k).1 = 3 ∨ (p.state k).1 = 0 := by
  unfold PortM.lost at h
  simpa using h

set_option maxHeartbeats 2000000 in
set_option maxRecDepth 100000 in
theorem rl_step (a c most : Int) (h : PortAt w base b l p) (hlen : p.outs.length < 100000000000) :
    Calls Try.prog 38 #[.pointer (some ⟨b, 0, none⟩), .int .i64 a, .int .i64 c, .int .i64 most] w fun e w' => e = .returned (.tuple #[.int .i64 ((p.stepA a c most).1 : Nat), .bool (p.stepA a c most).2.1, .int .i64 ((p.stepA a c most).2.2 : Nat)]) ∧ PPost w base b l (p.stepped a c most) w' := by
  have hL := rl_looked a c most h
  rcases lookedE_cases (p := p) a c most with h0 | h0
  · have hlk := lookedE_ok.1 h0
    obtain ⟨ht1, ht2, hne, hm⟩ := hlk
    obtain ⟨m, rfl⟩ := Int.eq_ofNat_of_zero_le (show 0 ≤ most by omega)
    have key1 : p.lost a = true ∨ p.lost c = true → p.stepA a c m = (0, true, 0) ∧ p.stepped a c m = p.stopped a c := fun hh => by
      have : (p.lost a || p.lost c) = true := by simpa using hh
      exact ⟨by unfold PortM.stepA; rw [if_pos h0, if_pos this], by unfold PortM.stepped; rw [if_pos h0, if_pos this]⟩
    have key2 : p.lost a = false → p.lost c = false → p.stepA a c m = (p.bothN a c m, (p.both2 a c m).over a c, 0) ∧ p.stepped a c m = if (p.both2 a c m).over a c then (p.both2 a c m).stopped a c else p.both2 a c m := fun h1 h2 => by
      have : ¬ (p.lost a || p.lost c) = true := by rw [h1, h2]; simp
      exact ⟨by unfold PortM.stepA; rw [if_pos h0, if_neg this, Int.toNat_natCast], by unfold PortM.stepped; rw [if_pos h0, if_neg this, Int.toNat_natCast]⟩
    rw [h0] at hL
    clear h0
    have hSt := rl_stop a c h (by omega)
    have hSa := pt_state a h
    have hSc := pt_state c h
    go_enter Try.func38, Try.ntmps38
    go_wp2_with fail
    refine hL.mono ?_
    rintro e w' ⟨rfl, rfl⟩
    clear hL
    go_wp2_with fail
    go_loopw [31] (fun i wr => ∃ k : Nat, k ≤ 2 ∧ i = .int .i64 k ∧ (1 ≤ k → p.lost a = false) ∧ (2 ≤ k → p.lost c = false) ∧ w = wr) (fun i _ => 2 - (intOf i).toNat)
    case atStart => exact ⟨0, Nat.zero_le _, rfl, by omega, by omega, rfl⟩
    case round =>
      obtain ⟨k, hk, rfl, hk1, hk2, rfl⟩ := hrel
      rcases (show k = 0 ∨ k = 1 ∨ k = 2 by omega) with rfl | rfl | rfl
      · rcases Bool.eq_false_or_eq_true (p.lost a) with ha | ha
        · obtain ⟨k1, k2⟩ := key1 (Or.inl ha)
          rcases lost_state' ha with hs | hs
          all_goals
            have K1 := Lib.hid k1
            have K2 := Lib.hid k2
            clear k1 k2 key1 key2
            rw [hs] at hSa
            go_wp2_with fail
            refine hSa.mono ?_
            rintro e w' ⟨rfl, rfl⟩
            go_wp2_with fail
            refine hSt.mono ?_
            rintro e w3 ⟨rfl, hp⟩
            go_wp2_with fail
            go_ret3
            exact ⟨by rw [K1.out]; rfl, by rw [K2.out]; exact hp⟩
        · obtain ⟨q1, q2, q3, q4⟩ := lost_state ha
          generalize p.state a = sa at *
          go_wp2_with fail
          refine hSa.mono ?_
          rintro e w' ⟨rfl, rfl⟩
          go_wp2_with fail
          go_roundw
          case rel => exact ⟨1, by decide, rfl, fun _ => ha, by omega, by first | rfl | trivial⟩
          case measure => simp [intOf]
      · have ha := hk1 (by decide)
        rcases Bool.eq_false_or_eq_true (p.lost c) with hc | hc
        · obtain ⟨k1, k2⟩ := key1 (Or.inr hc)
          rcases lost_state' hc with hs | hs
          all_goals
            have K1 := Lib.hid k1
            have K2 := Lib.hid k2
            clear k1 k2 key1 key2
            rw [hs] at hSc
            go_wp2_with fail
            refine hSc.mono ?_
            rintro e w' ⟨rfl, rfl⟩
            go_wp2_with fail
            refine hSt.mono ?_
            rintro e w3 ⟨rfl, hp⟩
            go_wp2_with fail
            go_ret3
            exact ⟨by rw [K1.out]; rfl, by rw [K2.out]; exact hp⟩
        · obtain ⟨q1, q2, q3, q4⟩ := lost_state hc
          generalize p.state c = sc at *
          go_wp2_with fail
          refine hSc.mono ?_
          rintro e w' ⟨rfl, rfl⟩
          go_wp2_with fail
          go_roundw
          case rel => exact ⟨2, by decide, rfl, fun _ => ha, fun _ => hc, by first | rfl | trivial⟩
          case measure => simp [intOf]
      · have ha := hk1 (by decide)
        have hc := hk2 (by decide)
        obtain ⟨k1, k2⟩ := key2 ha hc
        have K1 := Lib.hid k1
        have K2 := Lib.hid k2
        clear k1 k2 key1 key2
        clear hSt hSa hSc hk1 hk2 ha hc
        have hp0 : PPost w base b l p w := PPost.refl h
        have n1 : p.stepN a c m 1 ≤ 65536 := handN_le h a c m
        go_wp2_with fail
        go_loopw [16, 58] (fun nv i wx => ∃ k : Nat, k ≤ 2 ∧ i = .int .i64 k ∧ nv = .int .i64 (p.stepN a c m k : Nat) ∧ PPost w base b l (p.stepK a c m k) wx) (fun _ i _ => 2 - (intOf i).toNat)
        case atStart => exact ⟨0, Nat.zero_le _, rfl, rfl, hp0⟩
        case round =>
          clear hp0
          obtain ⟨k, hk, rfl, rfl, hp⟩ := hrel
          have hl1 : (p.both1 a c m).outs.length ≤ p.outs.length + 2 := handed_outs _ _ _
          have hl2 : (p.both2 a c m).outs.length ≤ (p.both1 a c m).outs.length + 2 := handed_outs _ _ _
          rcases (show k = 0 ∨ k = 1 ∨ k = 2 by omega) with rfl | rfl | rfl
          · obtain ⟨l1, hP, hU, hW⟩ := hp
            have hP : PortAt wr base b l1 p := hP
            have hUa : Upd [] wr (wr.alloc (Obj.cells #[.int .i64 a, .int .i64 c] 73)) := (Upd.refl _ _).alloc _
            have hH := rl_hand a c m (hP.upd hUa (by simp)) (by omega)
            have hn := handN_le hP a c m
            have ew : IntKind.i64.wrap (((p.stepN a c m 0 : Nat) : Int) + ((p.handN a c m : Nat) : Int)) = ((p.stepN a c m 1 : Nat) : Int) := by
              rw [IntWalk.i64_in _ (by have : p.stepN a c m 0 = 0 := rfl; omega)]
              have e0 : p.stepN a c m 0 = 0 := rfl
              have e1 : p.stepN a c m 1 = p.handN a c m := rfl
              omega
            go_wp2_with fail
            refine hH.mono ?_
            rintro e w3 ⟨rfl, l3, hP3, hU3, hW3⟩
            have hUx := hUa.mono (G := l1.foot) (by simp)
            have hR : PPost w base b l (p.stepK a c m 1) w3 := ⟨l3, hP3, (hU.trans hW hUx).trans (Within.trans hU hW (Within.refl _ _)) hU3, Within.trans hU hW (Within.trans hUx (Within.refl _ _) hW3)⟩
            go_wp2_with fail
            go_roundw
            case rel =>
              repeat apply Exists.intro
              exact ⟨⟨1, by decide, rfl, rfl, hR⟩, rfl⟩
            case measure => simp [intOf]
          · obtain ⟨l1, hP, hU, hW⟩ := hp
            have hP : PortAt wr base b l1 (p.both1 a c m) := hP
            have hUa : Upd [] wr (wr.alloc (Obj.cells #[.int .i64 c, .int .i64 a] 73)) := (Upd.refl _ _).alloc _
            have hH := rl_hand c a m (hP.upd hUa (by simp)) (by omega)
            have hn := handN_le hP c a m
            have ew : IntKind.i64.wrap (((p.stepN a c m 1 : Nat) : Int) + (((p.both1 a c m).handN c a m : Nat) : Int)) = ((p.stepN a c m 2 : Nat) : Int) := by
              rw [IntWalk.i64_in _ (by have := n1; omega)]
              have e2 : p.stepN a c m 2 = p.stepN a c m 1 + (p.both1 a c m).handN c a m := rfl
              
              omega
            go_wp2_with fail
            refine hH.mono ?_
            rintro e w3 ⟨rfl, l3, hP3, hU3, hW3⟩
            have hUx := hUa.mono (G := l1.foot) (by simp)
            have hR : PPost w base b l (p.stepK a c m 2) w3 := ⟨l3, hP3, (hU.trans hW hUx).trans (Within.trans hU hW (Within.refl _ _)) hU3, Within.trans hU hW (Within.trans hUx (Within.refl _ _) hW3)⟩
            go_wp2_with fail
            go_roundw
            case rel =>
              repeat apply Exists.intro
              exact ⟨⟨2, by decide, rfl, rfl, hR⟩, rfl⟩
            case measure => simp [intOf]
          · obtain ⟨l1, hP, hU, hW⟩ := hp
            have hP : PortAt wr base b l1 (p.both2 a c m) := hP
            have hlen2 : (p.both2 a c m).ends.length = p.ends.length := by
              unfold PortM.both2 PortM.both1
              rw [handed_len, handed_len]
            have hE1 := pt_ended a hP
            have hE2 := pt_ended c hP
            have hS := rl_stop a c hP (by omega)
            have hl0 : (p.both2 a c m).lookedE a c 1 = 0 := lookedE_ok.2 ⟨by rw [there_len hlen2]; exact ht1, by rw [there_len hlen2]; exact ht2, hne, by decide⟩
            rw [hl0] at hS
            have hov : (p.both2 a c m).over a c = ((p.both2 a c m).ended a && (p.both2 a c m).ended c) := rfl
            have Hov := Lib.hid hov
            clear hov hl0
            rcases Bool.eq_false_or_eq_true ((p.both2 a c m).ended a) with ha | ha
            · rw [ha] at hE1
              rcases Bool.eq_false_or_eq_true ((p.both2 a c m).ended c) with hc | hc
              · rw [hc] at hE2
                have ho : (p.both2 a c m).over a c = true := by rw [Hov.out, ha, hc]; rfl
                go_wp2_with fail
                refine hE1.mono ?_
                rintro e w' ⟨rfl, rfl⟩
                go_wp2_with fail
                refine hE2.mono ?_
                rintro e w' ⟨rfl, rfl⟩
                go_wp2_with fail
                refine hS.mono ?_
                rintro e w3 ⟨rfl, l3, hP3, hU3, hW3⟩
                go_wp2_with fail
                go_ret3
                refine ⟨by rw [K1.out, ho]; rfl, ?_⟩
                rw [K2.out, if_pos ho]
                exact ⟨l3, hP3, hU.trans hW hU3, Within.trans hU hW hW3⟩
              · rw [hc] at hE2
                have ho : (p.both2 a c m).over a c = false := by rw [Hov.out, ha, hc]; rfl
                go_wp2_with fail
                refine hE1.mono ?_
                rintro e w' ⟨rfl, rfl⟩
                go_wp2_with fail
                refine hE2.mono ?_
                rintro e w' ⟨rfl, rfl⟩
                go_wp2_with fail
                go_ret3
                refine ⟨by rw [K1.out, ho]; rfl, ?_⟩
                rw [K2.out, if_neg (by rw [ho]; simp)]
                exact ⟨l1, hP, hU, hW⟩
            · rw [ha] at hE1
              have ho : (p.both2 a c m).over a c = false := by rw [Hov.out, ha]; rfl
              go_wp2_with fail
              refine hE1.mono ?_
              rintro e w' ⟨rfl, rfl⟩
              go_wp2_with fail
              go_ret3
              refine ⟨by rw [K1.out, ho]; rfl, ?_⟩
              rw [K2.out, if_neg (by rw [ho]; simp)]
              exact ⟨l1, hP, hU, hW⟩
  · have e1 : p.stepA a c most = (0, false, 2) := if_neg (by omega)
    have e2 : p.stepped a c most = p := if_neg (by omega)
    rw [e1, e2]
    rw [h0] at hL
    clear e1 e2 h0
    go_enter Try.func38, Try.ntmps38
    go_wp2_with fail
    refine hL.mono ?_
    rintro e w' ⟨rfl, rfl⟩
    go_wp2_with fail
    go_ret3
    exact ⟨rfl, PPost.refl h⟩
end

end Go.Proofs.Ytnbhgfnjnccakaa
