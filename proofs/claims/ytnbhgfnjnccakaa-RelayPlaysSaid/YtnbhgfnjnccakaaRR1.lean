/- The walks of the document's relay (sallyportref19): there, lost, Move, Stop, Step. -/
import Derived.Test.YtnbhgfnjnccakaaRRp
import Derived.OwnWalk
namespace Go.Proofs.Ytnbhgfnjnccakaa
open Go Go.RowKit
set_option linter.unusedVariables false

section
variable {w w1 : World} {base c : Nat} {L : XLay} {p : PortM}

theorem there_iff {k : Int} : p.there k = true ↔ 0 ≤ k ∧ k < (p.ends.length : Int) := by
  rcases p.at?_cases k with ⟨hn, hk⟩ | ⟨i, x, rfl, hx, hax, hil⟩
  · rw [there_f hn]
    exact iff_of_false (by decide) (by omega)
  · rw [there_t hx]
    exact iff_of_true rfl (by omega)

theorem rr_there_no {a d : Int} (h : RPortAt w base c L p) (hno : ¬ (p.there a = true ∧ p.there d = true ∧ a ≠ d)) :
    Calls Try.prog 77 #[.pointer (some ⟨c, 0, none⟩), .int .i64 a, .int .i64 d] w fun e w' => e = .returned (.bool false) ∧ w = w' := by
  have b2 := h.blk.cell (i := 2) rfl
  obtain ⟨ao, co, hv⟩ := h.veShape
  rw [hv] at b2
  rw [there_iff, there_iff] at hno
  by_cases h1 : 0 ≤ a
  · by_cases h2 : 0 ≤ d
    · by_cases h3 : a < (p.ends.length : Int)
      · by_cases h4 : d < (p.ends.length : Int)
        · have h5 : a = d := by
            by_cases hh : a = d
            · exact hh
            · exact absurd ⟨⟨h1, h3⟩, ⟨h2, h4⟩, hh⟩ hno
          subst h5
          clear hno
          go_enter Try.func77, Try.ntmps77
          go_wp2_with fail
          go_ret
          exact ⟨by simp, rfl⟩
        · clear hno
          go_enter Try.func77, Try.ntmps77
          go_wp2_with fail
          go_ret
          exact ⟨rfl, rfl⟩
      · clear hno
        go_enter Try.func77, Try.ntmps77
        go_wp2_with fail
        go_ret
        exact ⟨rfl, rfl⟩
    · clear hno
      go_enter Try.func77, Try.ntmps77
      go_wp2_with fail
      go_ret
      exact ⟨rfl, rfl⟩
  · clear hno
    go_enter Try.func77, Try.ntmps77
    go_wp2_with fail
    go_ret
    exact ⟨rfl, rfl⟩

theorem rr_there_yes {a d : Int} (h : RPortAt w base c L p) (h1 : p.there a = true) (h2 : p.there d = true) (h3 : a ≠ d) :
    Calls Try.prog 77 #[.pointer (some ⟨c, 0, none⟩), .int .i64 a, .int .i64 d] w fun e w' => e = .returned (.bool true) ∧ w = w' := by
  have b2 := h.blk.cell (i := 2) rfl
  obtain ⟨ao, co, hv⟩ := h.veShape
  rw [hv] at b2
  rw [there_iff] at h1 h2
  obtain ⟨q1, q2⟩ := h1
  obtain ⟨q3, q4⟩ := h2
  have hb : (a == d) = false := by simpa using h3
  go_enter Try.func77, Try.ntmps77
  go_wp2_with fail
  go_ret
  exact ⟨by simp [h3], rfl⟩

theorem rr_lost {i : Nat} {x : EndM} (h : RPortAt w base c L p) (hx : p.ends[i]? = some x) :
    Calls Try.prog 78 #[.pointer (some ⟨c, 0, none⟩), .int .i64 i] w fun e w' => e = .returned (.bool (p.lost i)) ∧ w = w' := by
  have hax : p.at? (i : Int) = some x := by rw [PortM.at?_nat]; exact hx
  have e1 : p.lost i = (x.st == 3 || x.st == 0) := by unfold PortM.lost PortM.state; rw [hax]
  rw [e1]
  obtain ⟨g, off, cap, hv, hg, c0, c1, c2, c3, c4, c5, hfz⟩ := h.cells hx
  have b2 := h.blk.cell (i := 2) rfl
  rw [hv] at b2
  have hsm := h.small
  have hil := (List.getElem?_eq_some_iff.1 hx).1
  have eadd : (⟨g, off, none⟩ : Addr).add (i * 6) = ⟨g, off + i * 6, none⟩ := addr_add _ _ _
  clear hfz c1 c2 c3 c4 c5
  by_cases h3 : x.st = 3
  · have e2 : (x.st == 3 || x.st == 0) = true := by rw [h3]; rfl
    rw [e2]
    rw [h3] at c0
    go_enter Try.func78, Try.ntmps78
    go_wp2_with fail
    go_ret
    exact ⟨rfl, rfl⟩
  · have h3b : ((x.st : Int) == 3) = false := by simp; omega
    by_cases h0 : x.st = 0
    · have e2 : (x.st == 3 || x.st == 0) = true := by rw [h0]; rfl
      rw [e2]
      rw [h0] at c0
      go_enter Try.func78, Try.ntmps78
      go_wp2_with fail
      go_ret
      exact ⟨rfl, rfl⟩
    · have h0b : ((x.st : Int) == 0) = false := by simp; omega
      have e2 : (x.st == 3 || x.st == 0) = false := by simp [h3, h0]
      rw [e2]
      go_enter Try.func78, Try.ntmps78
      go_wp2_with fail
      go_ret
      exact ⟨by simp, rfl⟩

theorem rr_stop (a d : Int) (h : RPortAt w base c L p) (hlen : p.outs.length < 1000000000000) :
    Calls Try.prog 43 #[.pointer (some ⟨c, 0, none⟩), .int .i64 a, .int .i64 d] w fun e w' => e = .returned (.int .i64 (p.lookedE a d 1 : Nat)) ∧ RPost w base c L (p.stopped a d) w' := by
  by_cases h0 : p.lookedE a d 1 = 0
  · obtain ⟨t1, t2, t3, _⟩ := lookedE_ok.1 h0
    have hT := rr_there_yes h t1 t2 t3
    have e2 : p.stopped a d = (p.closed a).closed d := if_pos h0
    have hC := rp_close a h (by omega)
    have co := closed_outs (p := p) a
    rw [e2, h0]
    go_enter Try.func43, Try.ntmps43
    go_wp2_with fail
    refine hT.mono ?_
    rintro e w' ⟨rfl, rfl⟩
    go_wp2_with fail
    refine hC.mono ?_
    rintro e w2 ⟨rfl, L2, h2, hu2, hW2⟩
    have hC2 := rp_close d h2 (by omega)
    go_wp2_with fail
    refine hC2.mono ?_
    rintro e w3 ⟨rfl, hp⟩
    go_wp2_with fail
    go_ret
    exact ⟨rfl, hp.after hu2 hW2⟩
  · have h2 : p.lookedE a d 1 = 2 := by rcases lookedE_cases (p := p) a d 1 with q | q; exact absurd q h0; exact q
    have hno : ¬ (p.there a = true ∧ p.there d = true ∧ a ≠ d) := fun ⟨q1, q2, q3⟩ => h0 (lookedE_ok.2 ⟨q1, q2, q3, by decide⟩)
    have hT := rr_there_no h hno
    have e2 : p.stopped a d = p := if_neg h0
    rw [e2, h2]
    go_enter Try.func43, Try.ntmps43
    go_wp2_with fail
    refine hT.mono ?_
    rintro e w' ⟨rfl, rfl⟩
    go_wp2_with fail
    go_ret
    exact ⟨rfl, RPost.refl h⟩

/-- Refused: the numbers are not good. -/
theorem rr_move_no {a d most : Int} (h : RPortAt w base c L p) (h0 : ¬ p.lookedE a d most = 0) :
    Calls Try.prog 41 #[.pointer (some ⟨c, 0, none⟩), .int .i64 a, .int .i64 d, .int .i64 most] w fun e w' => e = .returned (.tuple #[.int .i64 0, .int .i64 2]) ∧ w = w' := by
  by_cases hno : p.there a = true ∧ p.there d = true ∧ a ≠ d
  · have hm : most < 1 := by
      by_cases hh : most < 1
      · exact hh
      · exact absurd (lookedE_ok.2 ⟨hno.1, hno.2.1, hno.2.2, by omega⟩) h0
    have hT := rr_there_yes h hno.1 hno.2.1 hno.2.2
    go_enter Try.func41, Try.ntmps41
    go_wp2_with fail
    refine hT.mono ?_
    rintro e w' ⟨rfl, rfl⟩
    go_wp2_with fail
    go_ret2
    exact ⟨rfl, rfl⟩
  · have hT := rr_there_no h hno
    go_enter Try.func41, Try.ntmps41
    go_wp2_with fail
    refine hT.mono ?_
    rintro e w' ⟨rfl, rfl⟩
    go_wp2_with fail
    go_ret2
    exact ⟨rfl, rfl⟩
theorem rr_step_no {a d most : Int} (h : RPortAt w base c L p) (h0 : ¬ p.lookedE a d most = 0) :
    Calls Try.prog 39 #[.pointer (some ⟨c, 0, none⟩), .int .i64 a, .int .i64 d, .int .i64 most] w fun e w' => e = .returned (.tuple #[.int .i64 0, .bool false, .int .i64 2]) ∧ w = w' := by
  by_cases hno : p.there a = true ∧ p.there d = true ∧ a ≠ d
  · have hm : most < 1 := by
      by_cases hh : most < 1
      · exact hh
      · exact absurd (lookedE_ok.2 ⟨hno.1, hno.2.1, hno.2.2, by omega⟩) h0
    have hT := rr_there_yes h hno.1 hno.2.1 hno.2.2
    go_enter Try.func39, Try.ntmps39
    go_wp2_with fail
    refine hT.mono ?_
    rintro e w' ⟨rfl, rfl⟩
    go_wp2_with fail
    go_ret3
    exact ⟨rfl, rfl⟩
  · have hT := rr_there_no h hno
    go_enter Try.func39, Try.ntmps39
    go_wp2_with fail
    refine hT.mono ?_
    rintro e w' ⟨rfl, rfl⟩
    go_wp2_with fail
    go_ret3
    exact ⟨rfl, rfl⟩
end

end Go.Proofs.Ytnbhgfnjnccakaa
