/- The walks of the relay's own words looked and hand. -/
import Derived.Test.YtnbhgfnjnccakaaPort17
namespace Go.Proofs.Ytnbhgfnjnccakaa
open Go Go.RowKit
set_option linter.unusedVariables false

section
variable {w w1 : World} {base b : Nat} {l : PLay} {p : PortM}

def PortM.there (p : PortM) (k : Int) : Bool := (p.at? k).isSome
/-- What looked answers. -/
def PortM.lookedE (p : PortM) (a c : Int) (most : Int) : Nat := if p.there a = true ∧ p.there c = true ∧ a ≠ c ∧ 1 ≤ most then 0 else 2

theorem state_there {k : Int} (h : p.there k = true) : (p.state k).2 = 0 := by
  unfold PortM.there at h
  unfold PortM.state
  cases hk : p.at? k with
  | none => rw [hk] at h; cases h
  | some e => rfl
theorem state_not {k : Int} (h : p.there k = false) : (p.state k).2 = 2 := by
  unfold PortM.there at h
  unfold PortM.state
  cases hk : p.at? k with
  | none => rfl
  | some e => rw [hk] at h; cases h

set_option maxHeartbeats 1000000 in
set_option maxRecDepth 100000 in
theorem rl_looked (a c most : Int) (h : PortAt w base b l p) :
    Calls Try.prog 75 #[.pointer (some ⟨b, 0, none⟩), .int .i64 a, .int .i64 c, .int .i64 most] w fun e w' => e = .returned (.int .i64 (p.lookedE a c most : Nat)) ∧ w = w' := by
  have ha := pt_state a h
  have hc := pt_state c h
  cases h1 : p.there a with
  | false =>
    have e1 := state_not h1
    have e2 : p.lookedE a c most = 2 := by unfold PortM.lookedE; rw [if_neg (by rw [h1]; simp)]
    rw [e1] at ha
    go_enter Try.func75, Try.ntmps75
    go_wp2_with fail
    refine ha.mono ?_
    rintro e w' ⟨rfl, rfl⟩
    go_wp2_with fail
    go_ret
    exact ⟨by rw [e2]; rfl, rfl⟩
  | true =>
    rw [state_there h1] at ha
    cases h2 : p.there c with
    | false =>
      have e2 : p.lookedE a c most = 2 := by unfold PortM.lookedE; rw [if_neg (by rw [h2]; simp)]
      rw [state_not h2] at hc
      go_enter Try.func75, Try.ntmps75
      go_wp2_with fail
      refine ha.mono ?_
      rintro e w' ⟨rfl, rfl⟩
      go_wp2_with fail
      refine hc.mono ?_
      rintro e w' ⟨rfl, rfl⟩
      go_wp2_with fail
      go_ret
      exact ⟨by rw [e2]; rfl, rfl⟩
    | true =>
      rw [state_there h2] at hc
      by_cases h3 : a = c
      · have e2 : p.lookedE a c most = 2 := by unfold PortM.lookedE; rw [if_neg (fun hh => hh.2.2.1 h3)]
        have b3 : (a == c) = true := by simpa using h3
        have H3 := Lib.hid h3
        clear h3
        go_enter Try.func75, Try.ntmps75
        go_wp2_with fail
        refine ha.mono ?_
        rintro e w' ⟨rfl, rfl⟩
        go_wp2_with fail
        refine hc.mono ?_
        rintro e w' ⟨rfl, rfl⟩
        go_wp2_with fail
        go_ret
        exact ⟨by rw [e2]; rfl, rfl⟩
      · have b3 : (a == c) = false := by simpa using h3
        by_cases h4 : most < 1
        · have e2 : p.lookedE a c most = 2 := by unfold PortM.lookedE; rw [if_neg (fun hh => by omega)]
          have b4 : decide (most < 1) = true := decide_eq_true h4
          go_enter Try.func75, Try.ntmps75
          go_wp2_with fail
          refine ha.mono ?_
          rintro e w' ⟨rfl, rfl⟩
          go_wp2_with fail
          refine hc.mono ?_
          rintro e w' ⟨rfl, rfl⟩
          go_wp2_with fail
          go_ret
          exact ⟨by rw [e2]; rfl, rfl⟩
        · have e2 : p.lookedE a c most = 0 := by unfold PortM.lookedE; rw [if_pos ⟨h1, h2, h3, by omega⟩]
          have b4 : decide (most < 1) = false := decide_eq_false h4
          go_enter Try.func75, Try.ntmps75
          go_wp2_with fail
          refine ha.mono ?_
          rintro e w' ⟨rfl, rfl⟩
          go_wp2_with fail
          refine hc.mono ?_
          rintro e w' ⟨rfl, rfl⟩
          go_wp2_with fail
          go_ret
          exact ⟨by rw [e2]; rfl, rfl⟩

/-! ### hand -/

/-- How many bytes are asked for. -/
def PortM.handK (p : PortM) (to : Int) (m : Nat) : Int := ((min m (p.roomOf to) : Nat) : Int)
def PortM.hand2 (p : PortM) (fr to : Int) (m : Nat) : PortM := (p.taken fr (p.handK to m)).sent to (p.takeB fr (p.handK to m))
def PortM.handN (p : PortM) (fr to : Int) (m : Nat) : Nat := (p.taken fr (p.handK to m)).sendN to (p.takeB fr (p.handK to m))
def PortM.finIf (p : PortM) (fr to : Int) : PortM := if p.ended fr then p.fined to else p
theorem finIf_t {p : PortM} {fr to : Int} (h : p.ended fr = true) : p.finIf fr to = p.fined to := if_pos h
theorem finIf_f {p : PortM} {fr to : Int} (h : p.ended fr = false) : p.finIf fr to = p := if_neg (by rw [h]; simp)
def PortM.handed (p : PortM) (fr to : Int) (m : Nat) : PortM := (p.hand2 fr to m).finIf fr to

theorem taken_outs (k n : Int) : (p.taken k n).outs = p.outs := by
  unfold PortM.taken; split <;> rfl
theorem sent_outs (k : Int) (bs : List UInt8) : (p.sent k bs).outs.length ≤ p.outs.length + 1 := by
  unfold PortM.sent
  split
  · split
    · omega
    · simp
  · omega

set_option maxHeartbeats 1000000 in
set_option maxRecDepth 100000 in
theorem rl_hand (fr to : Int) (m : Nat) (h : PortAt w base b l p) (hlen : p.outs.length < 1000000000000) :
    Calls Try.prog 76 #[.pointer (some ⟨b, 0, none⟩), .int .i64 fr, .int .i64 to, .int .i64 m] w fun e w' => e = .returned (.int .i64 (p.handN fr to m : Nat)) ∧ PPost w base b l (p.handed fr to m) w' := by
  have hr := pt_room to h
  have hT := pt_take fr (p.handK to m) h
  have hk : p.handK to m = ((min m (p.roomOf to) : Nat) : Int) := rfl
  have hpo := taken_outs (p := p) fr (p.handK to m)
  have hpl := congrArg List.length hpo
  have hso := sent_outs (p := p.taken fr (p.handK to m)) to (p.takeB fr (p.handK to m))
  have hbl : (p.takeB fr (p.handK to m)).length ≤ 65536 := by
    unfold PortM.takeB
    rcases p.at?_cases fr with ⟨hn, _⟩ | ⟨i, x, rfl, hx, hax, _⟩
    · rw [hn]; simp
    · rw [hax]
      have := (h.rings i x hx).fit
      show (x.xs.take _).length ≤ _
      rw [List.length_take]; omega
  have hN : p.handN fr to m = (p.taken fr (p.handK to m)).sendN to (p.takeB fr (p.handK to m)) := rfl
  have hH : p.hand2 fr to m = (p.taken fr (p.handK to m)).sent to (p.takeB fr (p.handK to m)) := rfl
  have hD : p.handed fr to m = (p.hand2 fr to m).finIf fr to := rfl
  rw [hN, hD, hH]
  clear hN hD hH
  generalize p.taken fr (p.handK to m) = p1 at *
  generalize p.takeB fr (p.handK to m) = ys at *
  have main : ∀ (q : Int), q = p.handK to m → Calls Try.prog 18 #[.pointer (some ⟨b, 0, none⟩), .int .i64 fr, .int .i64 q] w (PTakePost w base b l p1 ys) := fun q hq => by rw [hq]; exact hT
  clear hT
  by_cases hlt : p.roomOf to < m
  · have hM := main (p.roomOf to : Nat) (by rw [hk]; omega)
    have hlt' : ((p.roomOf to : Nat) : Int) < (m : Int) := by omega
    clear main hk
    generalize p.roomOf to = rm at *
    go_enter Try.func76, Try.ntmps76
    go_wp2_with fail
    refine hr.mono ?_
    rintro e w' ⟨rfl, rfl⟩
    go_wp2_with fail
    refine hM.mono ?_
    rintro e w2 ⟨v, rfl, hG, hp⟩
    have hP2 := hp.1
    have hS := pt_send to hP2 (Own.rd hG) (by omega) (fun q hq => h.fresh (hG.lt q hq).1) (by rw [hpo]; omega)
    obtain ⟨va, vc, rfl⟩ := hG.shape
    clear hM hr hG
    go_wp2_with fail
    refine hS.mono ?_
    rintro e w3 ⟨rfl, l3, hP3, hU3, hW3⟩
    have hE := pt_ended fr hP3
    have hU03 := hp.2.trans_same hU3
    have hW03 : Within w l3.foot l.foot := Within.trans hp.2 (Within.refl _ _) hW3
    clear hS hU3 hW3 hP2
    rcases Bool.eq_false_or_eq_true ((p1.sent to ys).ended fr) with he | he
    · rw [he] at hE
      have hF := pt_fin to hP3 (by omega)
      go_wp2_with fail
      refine hE.mono ?_
      rintro e w' ⟨rfl, rfl⟩
      go_wp2_with fail
      refine hF.mono ?_
      rintro e w4 ⟨rfl, l4, hP4, hU4, hW4⟩
      go_wp2_with fail
      go_ret
      exact ⟨rfl, by first | exact ⟨l4, hP4, hU03.trans hW03 hU4, Within.trans hU03 hW03 hW4⟩ | (rw [finIf_t he]; exact ⟨l4, hP4, hU03.trans hW03 hU4, Within.trans hU03 hW03 hW4⟩)⟩
    · rw [he] at hE
      go_wp2_with fail
      refine hE.mono ?_
      rintro e w' ⟨rfl, rfl⟩
      go_wp2_with fail
      go_ret
      exact ⟨rfl, by first | exact ⟨l3, hP3, hU03, hW03⟩ | (rw [finIf_f he]; exact ⟨l3, hP3, hU03, hW03⟩)⟩
  · have hM := main (m : Nat) (by rw [hk]; omega)
    have hlt' : ¬ ((p.roomOf to : Nat) : Int) < (m : Int) := by omega
    clear main hk
    generalize p.roomOf to = rm at *
    go_enter Try.func76, Try.ntmps76
    go_wp2_with fail
    refine hr.mono ?_
    rintro e w' ⟨rfl, rfl⟩
    go_wp2_with fail
    refine hM.mono ?_
    rintro e w2 ⟨v, rfl, hG, hp⟩
    have hP2 := hp.1
    have hS := pt_send to hP2 (Own.rd hG) (by omega) (fun q hq => h.fresh (hG.lt q hq).1) (by rw [hpo]; omega)
    obtain ⟨va, vc, rfl⟩ := hG.shape
    clear hM hr hG
    go_wp2_with fail
    refine hS.mono ?_
    rintro e w3 ⟨rfl, l3, hP3, hU3, hW3⟩
    have hE := pt_ended fr hP3
    have hU03 := hp.2.trans_same hU3
    have hW03 : Within w l3.foot l.foot := Within.trans hp.2 (Within.refl _ _) hW3
    clear hS hU3 hW3 hP2
    rcases Bool.eq_false_or_eq_true ((p1.sent to ys).ended fr) with he | he
    · rw [he] at hE
      have hF := pt_fin to hP3 (by omega)
      go_wp2_with fail
      refine hE.mono ?_
      rintro e w' ⟨rfl, rfl⟩
      go_wp2_with fail
      refine hF.mono ?_
      rintro e w4 ⟨rfl, l4, hP4, hU4, hW4⟩
      go_wp2_with fail
      go_ret
      exact ⟨rfl, by first | exact ⟨l4, hP4, hU03.trans hW03 hU4, Within.trans hU03 hW03 hW4⟩ | (rw [finIf_t he]; exact ⟨l4, hP4, hU03.trans hW03 hU4, Within.trans hU03 hW03 hW4⟩)⟩
    · rw [he] at hE
      go_wp2_with fail
      refine hE.mono ?_
      rintro e w' ⟨rfl, rfl⟩
      go_wp2_with fail
      go_ret
      exact ⟨rfl, by first | exact ⟨l3, hP3, hU03, hW03⟩ | (rw [finIf_f he]; exact ⟨l3, hP3, hU03, hW03⟩)⟩
end

end Go.Proofs.Ytnbhgfnjnccakaa
