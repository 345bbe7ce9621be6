/- The walks of the port's Close and Dial. -/
import Derived.Test.YtnbhgfnjnccakaaPort13
namespace Go.Proofs.Ytnbhgfnjnccakaa
open Go Go.RowKit
set_option linter.unusedVariables false

section
variable {w w1 : World} {base b : Nat} {l : PLay} {p : PortM}

def EndM.quietB (e : EndM) : Bool := e.st == 3 || (e.ours && e.theirs)
def PortM.closeE (p : PortM) (k : Int) : Nat := match p.at? k with
  | none => 2
  | some e => if e.st = 0 then 150 else 0
def PortM.told (p : PortM) (o : OutM) : PortM := { p with outs := p.outs ++ [o] }
def PortM.closed (p : PortM) (k : Int) : PortM := match p.at? k with
  | none => p
  | some e => if e.st = 0 then p else if e.quietB then p.setEnd k.toNat (EndM.reset 0) else (p.told ⟨4, k, .empty, DestM.zero⟩).setEnd k.toNat (EndM.reset 0)

set_option maxHeartbeats 1000000 in
set_option maxRecDepth 100000 in
theorem pt_close (k : Int) (h : PortAt w base b l p) (hlen : p.outs.length < 1900000000000) :
    Calls Try.prog 48 #[.pointer (some ⟨b, 0, none⟩), .int .i64 k] w fun e w' => e = .returned (.int .i64 (p.closeE k : Nat)) ∧ PPost w base b l (p.closed k) w' := by
  rcases p.at?_cases k with ⟨hn, _⟩ | ⟨i, x, rfl, hx, hax, hil⟩
  · have e1 : p.closeE k = 2 := by unfold PortM.closeE; rw [hn]
    have e2 : p.closed k = p := by unfold PortM.closed; rw [hn]
    have hf := pt_find_none h hn
    rw [e1, e2]
    go_enter Try.func48, Try.ntmps48
    go_wp2_with fail
    refine hf.mono ?_
    rintro e w' ⟨rfl, rfl⟩
    go_wp2_with fail
    go_ret
    exact ⟨rfl, (PSame.refl h).post⟩
  · obtain ⟨g, off, cap, hv, hg, _⟩ := h.cells hx
    obtain ⟨c0, c1, c2, c3, c4, c5, hfz⟩ := h.cellsAt hx hv
    have hf := pt_find_at h hx hv
    clear hfz
    by_cases hst : x.st = 0
    · have e1 : p.closeE i = 150 := by unfold PortM.closeE; rw [hax]; simp only []; rw [if_pos hst]
      have e2 : p.closed i = p := by unfold PortM.closed; rw [hax]; simp only []; rw [if_pos hst]
      rw [e1, e2]
      rw [hst] at c1
      go_enter Try.func48, Try.ntmps48
      go_wp2_with fail
      refine hf.mono ?_
      rintro e w' ⟨rfl, rfl⟩
      go_wp2_with fail
      go_ret
      exact ⟨rfl, (PSame.refl h).post⟩
    · have e1 : p.closeE i = 0 := by unfold PortM.closeE; rw [hax]; simp only []; rw [if_neg hst]
      have hb0 : ((x.st : Int) == 0) = false := by simp; omega
      have hn0 : ¬ (x.st : Int) = 0 := by omega
      rcases Bool.eq_false_or_eq_true x.quietB with hq | hq
      · have e2 : p.closed i = p.setEnd i (EndM.reset 0) := by unfold PortM.closed; rw [hax]; simp only []; rw [if_neg hst, if_pos hq, Int.toNat_natCast]
        have hA := pt_again 0 (by decide) h hx hv
        rw [e1, e2]
        by_cases h3 : x.st = 3
        · rw [h3] at c1
          clear hb0 hn0
          go_enter Try.func48, Try.ntmps48
          go_wp2_with fail
          refine hf.mono ?_
          rintro e w' ⟨rfl, rfl⟩
          go_wp2_with fail
          refine hA.mono ?_
          rintro e w3 ⟨rfl, hp⟩
          go_wp2_with fail
          go_ret
          exact ⟨rfl, hp.post⟩
        · have h3' : ¬ (x.st : Int) = 3 := by omega
          have hb3 : ((x.st : Int) == 3) = false := by simp; omega
          have hot : x.ours = true ∧ x.theirs = true := by
            unfold EndM.quietB at hq
            have : (x.st == 3) = false := by simpa using h3
            rw [this] at hq
            simpa using hq
          rw [hot.2] at c4
          rw [hot.1] at c5
          go_enter Try.func48, Try.ntmps48
          go_wp2_with fail
          refine hf.mono ?_
          rintro e w' ⟨rfl, rfl⟩
          go_wp2_with fail
          refine hA.mono ?_
          rintro e w3 ⟨rfl, hp⟩
          go_wp2_with fail
          go_ret
          exact ⟨rfl, hp.post⟩
      · have e2 : p.closed i = (p.told ⟨4, i, .empty, DestM.zero⟩).setEnd i (EndM.reset 0) := by unfold PortM.closed; rw [hax]; simp only []; rw [if_neg hst, if_neg (by rw [hq]; simp), Int.toNat_natCast]
        have hput := pt_put ⟨4, i, .empty, DestM.zero⟩ h hlen
        have hq' := hq
        unfold EndM.quietB at hq'
        have h3 : ¬ x.st = 3 := fun e => by rw [e] at hq'; simp at hq'
        have h3' : ¬ (x.st : Int) = 3 := by omega
        have hb3 : ((x.st : Int) == 3) = false := by simp; omega
        have hot : x.ours = false ∨ (x.ours = true ∧ x.theirs = false) := by
          have : (x.st == 3) = false := by simpa using h3
          rw [this] at hq'
          cases ho : x.ours
          · exact Or.inl rfl
          · rw [ho] at hq'; exact Or.inr ⟨rfl, by simpa using hq'⟩
        rw [e1, e2]
        clear hq' hq
        rcases hot with ho | ⟨ho, ht⟩
        · rw [ho] at c5
          go_enter Try.func48, Try.ntmps48
          go_wp2_with fail
          refine hf.mono ?_
          rintro e w' ⟨rfl, rfl⟩
          go_wp2_with fail
          refine hput.mono ?_
          rintro e w3 ⟨rfl, l', hvl, hP, hU3, hW3⟩
          have hA := pt_again 0 (by decide) (p := p.told ⟨4, i, .empty, DestM.zero⟩) hP hx (hvl.trans hv)
          go_wp2_with fail
          refine hA.mono ?_
          rintro e w4 ⟨rfl, hp⟩
          go_wp2_with fail
          go_ret
          exact ⟨rfl, l', hp.1, hU3.trans hW3 hp.2, hW3⟩
        · rw [ho] at c5
          rw [ht] at c4
          go_enter Try.func48, Try.ntmps48
          go_wp2_with fail
          refine hf.mono ?_
          rintro e w' ⟨rfl, rfl⟩
          go_wp2_with fail
          refine hput.mono ?_
          rintro e w3 ⟨rfl, l', hvl, hP, hU3, hW3⟩
          have hA := pt_again 0 (by decide) (p := p.told ⟨4, i, .empty, DestM.zero⟩) hP hx (hvl.trans hv)
          go_wp2_with fail
          refine hA.mono ?_
          rintro e w4 ⟨rfl, hp⟩
          go_wp2_with fail
          go_ret
          exact ⟨rfl, l', hp.1, hU3.trans hW3 hp.2, hW3⟩
end

end Go.Proofs.Ytnbhgfnjnccakaa
