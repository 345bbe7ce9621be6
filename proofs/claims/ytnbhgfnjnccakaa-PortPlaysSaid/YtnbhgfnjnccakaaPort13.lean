/- The walks of the port's Fin, Post. -/
import Derived.Test.YtnbhgfnjnccakaaPortArgs
namespace Go.Proofs.Ytnbhgfnjnccakaa
open Go Go.RowKit
set_option linter.unusedVariables false

section
variable {w w1 : World} {base b : Nat} {l : PLay} {p : PortM}

def PortM.finE (p : PortM) (k : Int) : Nat := match p.at? k with
  | none => 2
  | some e => if e.st = 1 ∧ e.ours = false then 0 else 150
def PortM.fined (p : PortM) (k : Int) : PortM := match p.at? k with
  | none => p
  | some e => if e.st = 1 ∧ e.ours = false then { p.setEnd k.toNat { e with ours := true } with outs := p.outs ++ [⟨3, k, .empty, DestM.zero⟩] } else p

set_option maxHeartbeats 1000000 in
set_option maxRecDepth 100000 in
theorem pt_fin (k : Int) (h : PortAt w base b l p) (hlen : p.outs.length < 1900000000000) :
    Calls Try.prog 22 #[.pointer (some ⟨b, 0, none⟩), .int .i64 k] w fun e w' => e = .returned (.int .i64 (p.finE k : Nat)) ∧ PPost w base b l (p.fined k) w' := by
  rcases p.at?_cases k with ⟨hn, _⟩ | ⟨i, x, rfl, hx, hax, hil⟩
  · have e1 : p.finE k = 2 := by unfold PortM.finE; rw [hn]
    have e2 : p.fined k = p := by unfold PortM.fined; rw [hn]
    have hf := pt_find_none h hn
    rw [e1, e2]
    go_enter Try.func22, Try.ntmps22
    go_wp2_with fail
    refine hf.mono ?_
    rintro e w' ⟨rfl, rfl⟩
    go_wp2_with fail
    go_ret
    exact ⟨rfl, (PSame.refl h).post⟩
  · obtain ⟨g, off, cap, hv, hg, _⟩ := h.cells hx
    obtain ⟨c0, c1, c2, c3, c4, c5, hfz⟩ := h.cellsAt hx hv
    have hf := pt_find_at h hx hv
    by_cases hst : x.st = 1
    · rw [hst] at c1
      rcases Bool.eq_false_or_eq_true x.ours with ho | ho
      · have e1 : p.finE i = 150 := by unfold PortM.finE; rw [hax]; simp only []; rw [if_neg (fun hh => by rw [ho] at hh; cases hh.2)]
        have e2 : p.fined i = p := by unfold PortM.fined; rw [hax]; simp only []; rw [if_neg (fun hh => by rw [ho] at hh; cases hh.2)]
        rw [e1, e2]
        rw [ho] at c5
        clear hfz
        go_enter Try.func22, Try.ntmps22
        go_wp2_with fail
        refine hf.mono ?_
        rintro e w' ⟨rfl, rfl⟩
        go_wp2_with fail
        go_ret
        exact ⟨rfl, (PSame.refl h).post⟩
      · have e1 : p.finE i = 0 := by unfold PortM.finE; rw [hax]; simp only []; rw [if_pos ⟨hst, ho⟩]
        have e2 : p.fined i = { p.setEnd i { x with ours := true } with outs := p.outs ++ [⟨3, i, .empty, DestM.zero⟩] } := by unfold PortM.fined; rw [hax]; simp only []; rw [if_pos ⟨hst, ho⟩, Int.toNat_natCast]
        have f5 := hfz (off + i * 6 + 5)
        have hfx := h.fine x (List.mem_of_getElem? hx)
        have pp := h.step (j := 5) (e' := { x with ours := true }) (u := .bool true) hx hv (by decide) rfl rfl hfx
        have hput := pt_put ⟨3, i, .empty, DestM.zero⟩ pp.1 hlen
        rw [e1, e2]
        rw [ho] at c5
        clear hfz
        go_enter Try.func22, Try.ntmps22
        go_wp2_with fail
        refine hf.mono ?_
        rintro e w' ⟨rfl, rfl⟩
        go_wp2_with fail
        refine hput.mono ?_
        rintro e w3 ⟨rfl, l', _, hP, hU3, hW3⟩
        go_wp2_with fail
        go_ret
        exact ⟨rfl, l', hP, pp.2.trans_same hU3, Within.trans pp.2 (Within.refl _ _) hW3⟩
    · have hst' : ¬ (x.st : Int) = 1 := by omega
      have e1 : p.finE i = 150 := by unfold PortM.finE; rw [hax]; simp only []; rw [if_neg (fun hh => hst hh.1)]
      have e2 : p.fined i = p := by unfold PortM.fined; rw [hax]; simp only []; rw [if_neg (fun hh => hst hh.1)]
      rw [e1, e2]
      clear hfz
      go_enter Try.func22, Try.ntmps22
      go_wp2_with fail
      refine hf.mono ?_
      rintro e w' ⟨rfl, rfl⟩
      go_wp2_with fail
      go_ret
      exact ⟨rfl, (PSame.refl h).post⟩
end

end Go.Proofs.Ytnbhgfnjnccakaa
