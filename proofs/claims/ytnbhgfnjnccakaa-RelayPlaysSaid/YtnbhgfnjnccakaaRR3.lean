/- The walk of the document's relay's Step. -/
import Derived.Test.YtnbhgfnjnccakaaRR2
namespace Go.Proofs.Ytnbhgfnjnccakaa
open Go Go.RowKit
set_option linter.unusedVariables false

section
variable {w w1 : World} {base c : Nat} {L : XLay} {p : PortM}

set_option maxHeartbeats 4000000 in
set_option maxRecDepth 100000 in
theorem rr_step_ok {i j m : Nat} {x y : EndM} (h : RPortAt w base c L p) (hx : p.ends[i]? = some x) (hy : p.ends[j]? = some y) (hij : (i : Int) ≠ j) (hm : 1 ≤ m) (hlen : p.outs.length < 100000000000) :
    Calls Try.prog 39 #[.pointer (some ⟨c, 0, none⟩), .int .i64 i, .int .i64 j, .int .i64 m] w fun e w' => e = .returned (.tuple #[.int .i64 ((p.stepA i j m).1 : Nat), .bool (p.stepA i j m).2.1, .int .i64 ((p.stepA i j m).2.2 : Nat)]) ∧ RPost w base c L (p.stepped i j m) w' := by
  have hil := (List.getElem?_eq_some_iff.1 hx).1
  have hjl := (List.getElem?_eq_some_iff.1 hy).1
  have hT := rr_there_yes h (there_t hx) (there_t hy) hij
  have h0 : p.lookedE i j m = 0 := lookedE_ok.2 ⟨there_t hx, there_t hy, hij, by omega⟩
  have key1 : (p.lost i || p.lost j) = true → p.stepA i j m = (0, true, 0) ∧ p.stepped i j m = p.stopped i j := fun hh =>
    ⟨by unfold PortM.stepA; rw [if_pos h0, if_pos hh], by unfold PortM.stepped; rw [if_pos h0, if_pos hh]⟩
  have key2 : (p.lost i || p.lost j) = false → p.stepA i j m = (p.bothN i j m, (p.both2 i j m).over i j, 0) ∧ p.stepped i j m = if (p.both2 i j m).over i j then (p.both2 i j m).stopped i j else p.both2 i j m := fun hh => by
    have hh' : ¬ (p.lost i || p.lost j) = true := by rw [hh]; simp
    exact ⟨by unfold PortM.stepA; rw [if_pos h0, if_neg hh', Int.toNat_natCast], by unfold PortM.stepped; rw [if_pos h0, if_neg hh', Int.toNat_natCast]⟩
  have hLi := rr_lost h hx
  have hLj := rr_lost h hy
  have hSt := rr_stop (i : Int) (j : Int) h (by omega)
  rcases Bool.eq_false_or_eq_true (p.lost i) with hi | hi
  · obtain ⟨k1, k2⟩ := key1 (by rw [hi]; rfl)
    rw [k1, k2]
    rw [hi] at hLi
    clear key1 key2 k1 k2 h0
    go_enter Try.func39, Try.ntmps39
    go_wp2_with fail
    refine hT.mono ?_
    rintro e w' ⟨rfl, rfl⟩
    go_wp2_with fail
    refine hLi.mono ?_
    rintro e w' ⟨rfl, rfl⟩
    go_wp2_with fail
    refine hSt.mono ?_
    rintro e w3 ⟨rfl, hp⟩
    go_wp2_with fail
    go_ret3
    exact ⟨rfl, hp⟩
  · rw [hi] at hLi
    rcases Bool.eq_false_or_eq_true (p.lost j) with hj | hj
    · obtain ⟨k1, k2⟩ := key1 (by rw [hi, hj]; rfl)
      rw [k1, k2]
      rw [hj] at hLj
      clear key1 key2 k1 k2 h0
      go_enter Try.func39, Try.ntmps39
      go_wp2_with fail
      refine hT.mono ?_
      rintro e w' ⟨rfl, rfl⟩
      go_wp2_with fail
      refine hLi.mono ?_
      rintro e w' ⟨rfl, rfl⟩
      go_wp2_with fail
      refine hLj.mono ?_
      rintro e w' ⟨rfl, rfl⟩
      go_wp2_with fail
      refine hSt.mono ?_
      rintro e w3 ⟨rfl, hp⟩
      go_wp2_with fail
      go_ret3
      exact ⟨rfl, hp⟩
    · obtain ⟨k1, k2⟩ := key2 (by rw [hi, hj]; rfl)
      rw [hj] at hLj
      rw [k1, k2]
      obtain ⟨ps, hps⟩ : ∃ ps, ps = (if (p.both2 i j m).over i j then (p.both2 i j m).stopped i j else p.both2 i j m) := ⟨_, rfl⟩
      rw [← hps]
      obtain ⟨ov, hov0⟩ : ∃ ov, ov = (p.both2 i j m).over i j := ⟨_, rfl⟩
      rw [← hov0]
      have HPS := Lib.hid hps
      have HOV := Lib.hid hov0
      clear hps hov0
      have hM1 := rr_move_ok h hx hy hij hm (by omega)
      have ho1 : (p.both1 i j m).outs.length ≤ p.outs.length + 2 := handed_outs _ _ _
      have ho2 : (p.both2 i j m).outs.length ≤ (p.both1 i j m).outs.length + 2 := handed_outs _ _ _
      have hl1 : (p.both1 i j m).ends.length = p.ends.length := handed_len _ _ _
      have hl2 : (p.both2 i j m).ends.length = (p.both1 i j m).ends.length := handed_len _ _ _
      have hov : (p.both2 i j m).over i j = true → (p.both2 i j m).oursOf i = true ∧ (p.both2 i j m).oursOf j = true := fun hh => over_ours hij m hh
      have hbn : p.bothN i j m = p.handN i j m + (p.both1 i j m).handN j i m := rfl
      have hn1 : p.handN i j m ≤ 65536 := by
        have hax : p.at? (i : Int) = some x := by rw [PortM.at?_nat]; exact hx
        have := (h.rings i x hx).fit
        rw [handN_eq hax]; omega
      obtain ⟨x1, hx1⟩ : ∃ z, (p.both1 i j m).ends[i]? = some z := ⟨(p.both1 i j m).ends[i]'(by omega), List.getElem?_eq_getElem (by omega)⟩
      obtain ⟨y1, hy1⟩ : ∃ z, (p.both1 i j m).ends[j]? = some z := ⟨(p.both1 i j m).ends[j]'(by omega), List.getElem?_eq_getElem (by omega)⟩
      have hM2 : ∀ (w : World) (L : XLay), RPortAt w base c L (p.both1 i j m) → Calls Try.prog 41 #[.pointer (some ⟨c, 0, none⟩), .int .i64 j, .int .i64 i, .int .i64 m] w fun e w' => e = .returned (.tuple #[.int .i64 ((p.both1 i j m).handN j i m : Nat), .int .i64 0]) ∧ RPost w base c L (p.both2 i j m) w' :=
        fun w L h => rr_move_ok h hy1 hx1 (fun e => hij e.symm) hm (by omega)
      have hn2 : ∀ (w : World) (L : XLay), RPortAt w base c L (p.both1 i j m) → (p.both1 i j m).handN j i m ≤ 65536 := fun w L h => by
        have hax : (p.both1 i j m).at? (j : Int) = some y1 := by rw [PortM.at?_nat]; exact hy1
        have := (h.rings j y1 hy1).fit
        rw [handN_eq hax]; omega
      have hM1 : Calls Try.prog 41 #[.pointer (some ⟨c, 0, none⟩), .int .i64 i, .int .i64 j, .int .i64 m] w fun e w' => e = .returned (.tuple #[.int .i64 (p.handN i j m : Nat), .int .i64 0]) ∧ RPost w base c L (p.both1 i j m) w' := hM1
      have HB := Lib.hid hbn
      clear key1 key2 k1 k2 h0 hSt hbn
      generalize p.both1 i j m = p1 at *
      generalize p.both2 i j m = p2 at *
      generalize p.bothN i j m = bn at *
      generalize p.handN i j m = n1 at *
      generalize p1.handN j i m = n2 at *
      go_enter Try.func39, Try.ntmps39
      go_wp2_with fail
      refine hT.mono ?_
      rintro e w' ⟨rfl, rfl⟩
      go_wp2_with fail
      refine hLi.mono ?_
      rintro e w' ⟨rfl, rfl⟩
      go_wp2_with fail
      refine hLj.mono ?_
      rintro e w' ⟨rfl, rfl⟩
      clear hT hLi hLj hi hj
      go_wp2_with fail
      refine hM1.mono ?_
      rintro e w2 ⟨rfl, L2, h2, hu2, hW2⟩
      have hM2' := hM2 _ _ h2
      have hn2' := hn2 _ _ h2
      clear hM1 hM2 hn2
      go_wp2_with fail
      refine hM2'.mono ?_
      rintro e w3 ⟨rfl, L3, h3, hu3, hW3⟩
      have hR3 : ∀ {p' : PortM} {w4 : World}, RPost w3 base c L3 p' w4 → RPost w base c L p' w4 := fun hh => (hh.after hu3 hW3).after hu2 hW2
      have hE1 := rp_ended (i : Int) h3
      have hE2 := rp_ended (j : Int) h3
      have ew : IntKind.i64.wrap ((n1 : Int) + (n2 : Int)) = ((n1 + n2 : Nat) : Int) := by rw [IntWalk.i64_in _ (by omega)]; omega
      clear h2 hu2 hW2 hu3 hW3 hM2'
      rcases Bool.eq_false_or_eq_true (p2.over i j) with ho | ho
      · have hq : p2.ended i = true ∧ p2.ended j = true := by unfold PortM.over at ho; simpa using ho
        obtain ⟨o1, o2⟩ := hov ho
        rw [hq.1] at hE1
        rw [hq.2] at hE2
        have HO := Lib.hid ho
        have hSt := rr_stop (i : Int) (j : Int) h3 (by omega)
        obtain ⟨x2, hx2⟩ : ∃ z, p2.ends[i]? = some z := ⟨p2.ends[i]'(by omega), List.getElem?_eq_getElem (by omega)⟩
        obtain ⟨y2, hy2⟩ : ∃ z, p2.ends[j]? = some z := ⟨p2.ends[j]'(by omega), List.getElem?_eq_getElem (by omega)⟩
        have ox : x2.ours = true := by unfold PortM.oursOf at o1; rw [PortM.at?_nat, hx2] at o1; exact o1
        have oy : y2.ours = true := by unfold PortM.oursOf at o2; rw [PortM.at?_nat, hy2] at o2; exact o2
        obtain ⟨g, off, cap, hv, hg, -⟩ := h3.cells hx2
        obtain ⟨-, -, -, -, c4, -, -⟩ := h3.cellsAt hx2 hv
        obtain ⟨-, -, -, -, d4, -, -⟩ := h3.cellsAt hy2 hv
        rw [ox] at c4
        rw [oy] at d4
        have b2 := h3.blk.cell (i := 2) rfl
        have hlp : p2.ends.length = p.ends.length := by omega
        rw [hv, hlp] at b2
        have hsm := h.small
        have eadd : (⟨g, off, none⟩ : Addr).add (i * 6) = ⟨g, off + i * 6, none⟩ := addr_add _ _ _
        have eadd' : (⟨g, off, none⟩ : Addr).add (j * 6) = ⟨g, off + j * 6, none⟩ := addr_add _ _ _
        clear hov hq o1 o2 ox oy h3 ho
        go_wp2_with fail
        refine hE1.mono ?_
        rintro e w' ⟨rfl, rfl⟩
        go_wp2_with fail
        refine hE2.mono ?_
        rintro e w' ⟨rfl, rfl⟩
        go_wp2_with fail
        refine hSt.mono ?_
        rintro e w4 ⟨rfl, hp⟩
        go_wp2_with fail
        go_ret3
        exact ⟨by rw [HB.out, HOV.out, HO.out]; rfl, by rw [HPS.out, HO.out, if_pos rfl]; exact hR3 hp⟩
      · have HO := Lib.hid ho
        have hq : p2.ended i = false ∨ (p2.ended i = true ∧ p2.ended j = false) := by
          unfold PortM.over at ho
          cases he : p2.ended i
          · exact Or.inl rfl
          · rw [he] at ho; exact Or.inr ⟨rfl, by simpa using ho⟩
        have hfin := hR3 (RPost.refl h3)
        clear hov h3 ho
        rcases hq with hq | ⟨hq, hq2⟩
        · rw [hq] at hE1
          go_wp2_with fail
          refine hE1.mono ?_
          rintro e w' ⟨rfl, rfl⟩
          go_wp2_with fail
          go_ret3
          exact ⟨by rw [HB.out, HOV.out, HO.out]; rfl, by rw [HPS.out, HO.out, if_neg (by simp)]; exact hfin⟩
        · rw [hq] at hE1
          rw [hq2] at hE2
          go_wp2_with fail
          refine hE1.mono ?_
          rintro e w' ⟨rfl, rfl⟩
          go_wp2_with fail
          refine hE2.mono ?_
          rintro e w' ⟨rfl, rfl⟩
          go_wp2_with fail
          go_ret3
          exact ⟨by rw [HB.out, HOV.out, HO.out]; rfl, by rw [HPS.out, HO.out, if_neg (by simp)]; exact hfin⟩
end

end Go.Proofs.Ytnbhgfnjnccakaa
