/- An event at an endpoint that is idle is refused: the walk of the law PortIdle. -/
import Derived.Test.YtnbhgfnjnccakaaPort11
import Derived.Deep.DeepCutAuto
namespace Go.Proofs.Ytnbhgfnjnccakaa
open Go Go.RowKit
set_option linter.unusedVariables false

theorem used_idle (c s z : Nat) : PortM.used (PortM.new c s z) = 0 := by
  unfold PortM.used
  have : ∀ k, PortM.usedTo (PortM.new c s z) k = 0 := by
    intro k
    induction k with
    | zero => rfl
    | succ k ih =>
      rw [PortM.usedTo, ih]
      cases hx : (PortM.new c s z).ends[k]? with
      | none => rfl
      | some x =>
        have := List.mem_of_getElem? hx
        have := (List.mem_replicate.1 this).2
        subst this
        rfl
  exact this _

theorem new_at {c s z i : Nat} {x : EndM} (h : (PortM.new c s z).ends[i]? = some x) : x = EndM.reset 0 ∧ i < c + s := by
  have h1 := (List.mem_replicate.1 (List.mem_of_getElem? h)).2
  have h2 := (List.getElem?_eq_some_iff.1 h).1
  exact ⟨h1, by simpa [PortM.new] using h2⟩

/-- What an event at a port that is idle throughout answers. -/
def IdlePost (w : World) (b : Nat) (l : PLay) (p : PortM) (good : Prop) (e : Ending) (w' : World) : Prop :=
  (good ∧ e = .returned (.tuple #[.int .i64 0, .int .i64 0]) ∧ Upd l.foot w w') ∨ ∃ code : Nat, ¬ good ∧ code ≠ 0 ∧ e = .returned (.tuple #[.int .i64 0, .int .i64 code]) ∧ PSame w w.heap.size b l p w'

section
variable {w : World} {base b : Nat} {l : PLay}

def goodEv (c s : Nat) (kd en : Int) (bs : List UInt8) : Prop := (kd = 1 ∧ 0 ≤ en ∧ en < c) ∨ (kd = 8 ∧ en = c + s ∧ bs.length ≤ 512)

theorem ev_idle {c s z : Nat} (kd en n : Int) (bs : List UInt8) (ra : Option Addr) (rl rc : Nat) (h : PortAt w base b l (PortM.new c s z)) :
    Calls Try.prog 17 #[.pointer (some ⟨b, 0, none⟩), evV kd en n bs ra rl rc] w fun e w' =>
      (goodEv c s kd en bs ∧ e = .returned (.tuple #[.int .i64 0, .int .i64 0]) ∧ Upd l.foot w w') ∨
      ∃ code : Nat, ¬ goodEv c s kd en bs ∧ code ≠ 0 ∧ e = .returned (.tuple #[.int .i64 0, .int .i64 code]) ∧ PSame w base b l (PortM.new c s z) w' := by
  have hlen : (PortM.new c s z).ends.length = c + s := by simp [PortM.new]
  have bad : ∀ (code : Nat), code ≠ 0 → ¬ goodEv c s kd en bs → ∀ e w', EvPost w base b l 0 code (PortM.new c s z) e w' → (goodEv c s kd en bs ∧ e = .returned (.tuple #[.int .i64 0, .int .i64 0]) ∧ Upd l.foot w w') ∨
      ∃ code : Nat, ¬ goodEv c s kd en bs ∧ code ≠ 0 ∧ e = .returned (.tuple #[.int .i64 0, .int .i64 code]) ∧ PSame w base b l (PortM.new c s z) w' := fun code hc hg e w' he => Or.inr ⟨code, hg, hc, he.1, he.2⟩
  by_cases h8 : kd = 8
  · subst h8
    by_cases he : en = (c + s : Nat)
    · subst he
      by_cases hl : bs.length ≤ 512
      · have hg : ∀ w1, Upd [] w w1 → Calls Try.prog 56 #[.pointer (some ⟨b, 0, none⟩), evV 8 ((c + s : Nat) : Int) n bs ra rl rc] w1 fun e w' => e = .returned (.int .i64 (0 : Nat)) ∧ Upd l.foot w1 w' := fun w1 hu => by
          have := gram_weak n bs ra rl rc (h.upd hu (by simp)) hl (by simp [PortM.new])
          rw [hlen] at this
          exact this
        refine (ev_gram _ n bs ra rl rc 0 (fun w1 w' => Upd l.foot w1 w') h hg).mono ?_
        rintro e w' ⟨rfl, w1, hu, hU⟩
        exact Or.inl ⟨Or.inr ⟨rfl, by omega, hl⟩, rfl, (hu.mono (by simp)).trans_same hU⟩
      · have hg : ∀ w1, Upd [] w w1 → Calls Try.prog 56 #[.pointer (some ⟨b, 0, none⟩), evV 8 ((c + s : Nat) : Int) n bs ra rl rc] w1 fun e w' => e = .returned (.int .i64 (2 : Nat)) ∧ PSame w1 base b l (PortM.new c s z) w' := fun w1 hu => by
          have := gram_long n bs ra rl rc (h.upd hu (by simp)) (by omega)
          rw [hlen] at this
          exact this
        refine (ev_gram _ n bs ra rl rc 2 (fun w1 w' => PSame w1 base b l (PortM.new c s z) w') h hg).mono ?_
        rintro e w' ⟨rfl, w1, hu, hU⟩
        refine Or.inr ⟨2, fun hgd => ?_, by decide, rfl, hU.1, (hu.mono (by simp)).trans_same hU.2⟩
        rcases hgd with ⟨h1, _⟩ | ⟨_, _, h3⟩
        · cases h1
        · exact hl h3
    · have hg : ∀ w1, Upd [] w w1 → Calls Try.prog 56 #[.pointer (some ⟨b, 0, none⟩), evV 8 en n bs ra rl rc] w1 fun e w' => e = .returned (.int .i64 (2 : Nat)) ∧ PSame w1 base b l (PortM.new c s z) w' := fun w1 hu =>
        gram_end en n bs ra rl rc (h.upd hu (by simp)) (by rw [hlen]; exact he)
      refine (ev_gram _ n bs ra rl rc 2 (fun w1 w' => PSame w1 base b l (PortM.new c s z) w') h hg).mono ?_
      rintro e w' ⟨rfl, w1, hu, hU⟩
      refine Or.inr ⟨2, fun hgd => ?_, by decide, rfl, hU.1, (hu.mono (by simp)).trans_same hU.2⟩
      rcases hgd with ⟨h1, _⟩ | ⟨_, h2, _⟩
      · cases h1
      · exact he (by omega)
  · rcases (PortM.new c s z).at?_cases en with ⟨hn, hk⟩ | ⟨i, x, rfl, hx, hax, hil⟩
    · refine (ev_none kd en n bs ra rl rc h h8 hn).mono (bad 2 (by decide) (fun hgd => ?_))
      rcases hgd with ⟨h1, h2, h3⟩ | ⟨h1, _⟩
      · rw [hlen] at hk; omega
      · exact h8 h1
    · obtain ⟨rfl, hi⟩ := new_at hx
      have ng : kd ≠ 1 → ¬ goodEv c s kd i bs := fun h1 hgd => by
        rcases hgd with ⟨h, _⟩ | ⟨h, _⟩
        · exact h1 h
        · exact h8 h
      by_cases h1 : kd = 1
      · subst h1
        by_cases hc : i < c
        · refine (ev_open_ok n bs ra rl rc h hx hc rfl).mono ?_
          rintro e w' ⟨rfl, hp⟩
          exact Or.inl ⟨Or.inl ⟨rfl, by omega, by omega⟩, rfl, hp.2⟩
        · refine (ev_open_server i n bs ra rl rc h hx hc).mono (bad 2 (by decide) (fun hgd => ?_))
          rcases hgd with ⟨_, _, h3⟩ | ⟨h1, _⟩
          · exact hc (by omega)
          · cases h1
      by_cases h2 : kd = 2
      · subst h2
        exact (ev_data_st n bs ra rl rc h hx (by decide)).mono (bad 150 (by decide) (ng h1))
      by_cases h3 : kd = 3
      · subst h3
        exact (ev_fin_st n bs ra rl rc h hx (by decide)).mono (bad 150 (by decide) (ng h1))
      by_cases h4 : kd = 4
      · subst h4
        exact (ev_reset_no n bs ra rl rc h hx (Or.inl rfl)).mono (bad 150 (by decide) (ng h1))
      by_cases h5 : kd = 5
      · subst h5
        by_cases hn : n < 0
        · exact (ev_room_neg n bs ra rl rc h hx hn).mono (bad 2 (by decide) (ng h1))
        · exact (ev_room_st n bs ra rl rc h hx hn (by decide)).mono (bad 150 (by decide) (ng h1))
      by_cases h6 : kd = 6
      · subst h6
        by_cases hc : i < c
        · exact (ev_up_client n bs ra rl rc h hx hc).mono (bad 2 (by decide) (ng h1))
        · exact (ev_up_st n bs ra rl rc h hx hc (by decide)).mono (bad 150 (by decide) (ng h1))
      by_cases h7 : kd = 7
      · subst h7
        by_cases hc : i < c
        · exact (ev_down_client n bs ra rl rc h hx hc).mono (bad 2 (by decide) (ng h1))
        · exact (ev_down_st n bs ra rl rc h hx hc (by decide)).mono (bad 150 (by decide) (ng h1))
      · exact (ev_other kd n bs ra rl rc h hx (by omega)).mono (bad 2 (by decide) (ng h1))
end

set_option maxHeartbeats 2000000 in
set_option maxRecDepth 100000 in
theorem portIdle_law (w : World) (clients servers : Int) (kd en n : Int) (s : ByteArray) (ra : Option Addr) (rl rc : Nat) :
    Calls Try.prog 5 #[.int .i64 clients, .int .i64 servers, .agg #[.int .i64 kd, .int .i64 en, .int .i64 n, .string s, .slice ra rl rc]] w (Fine w (.bool true)) := by
  obtain ⟨bs, rfl⟩ : ∃ bs, s = strB bs := ⟨s.data.toList, (strB_data s).symm⟩
  have hr1 := among_range clients 5 (by decide)
  obtain ⟨c, hc⟩ : ∃ c : Nat, among clients 5 = c := ⟨(among clients 5).toNat, by omega⟩
  have hr2 := among_range servers 5 (by decide)
  obtain ⟨t, ht⟩ : ∃ t : Nat, among servers 5 = t := ⟨(among servers 5).toNat, by omega⟩
  have hct : c ≤ 4 ∧ t ≤ 4 := by omega
  have hA1 := fun w => among_any clients 5 w (by decide) (by decide)
  have hA2 := fun w => among_any servers 5 w (by decide) (by decide)
  rw [hc] at hA1
  rw [ht] at hA2
  have hX := blk_new' w 34 #[.int .i64 kd, .int .i64 en, .int .i64 n, .string (strB bs), .slice ra rl rc]
  have hU0 : Upd [] w (w.alloc (.cells #[.int .i64 kd, .int .i64 en, .int .i64 n, .string (strB bs), .slice ra rl rc] 34)) := (Upd.refl _ _).alloc _
  clear hr1 hr2 hc ht
  go_enter Try.func5, Try.ntmps5
  go_wp2_with fail
  generalize w.heap.size = X at *
  generalize w.alloc (.cells #[.int .i64 kd, .int .i64 en, .int .i64 n, .string (strB bs), .slice ra rl rc] 34) = w0 at *
  refine (port_works _).mono ?_
  rintro e w1 ⟨rfl, k⟩
  have hU1 := hU0.trans_same k
  have hX1 := hX.upd k (by simp)
  clear k hU0 hX
  go_wp2_with fail
  refine (hA1 _).mono ?_
  rintro e w' ⟨rfl, rfl⟩
  go_wp2_with fail
  refine (hA2 _).mono ?_
  rintro e w' ⟨rfl, rfl⟩
  clear hA1 hA2
  go_wp2_with fail
  refine (pt_new c t 8 _ (by omega) (by omega) (by decide) (by decide)).mono ?_
  rintro e w2 ⟨b, l, rfl, hP, k⟩
  have hb : w.heap.size ≤ w1.heap.size := hU1.size
  have hU2 := hU1.trans_same k
  have hX2 := hX1.upd k (by simp)
  have x0 := hX2.cell (i := 0) rfl
  have x1 := hX2.cell (i := 1) rfl
  have x2 := hX2.cell (i := 2) rfl
  have x3 := hX2.cell (i := 3) rfl
  have x4 := hX2.cell (i := 4) rfl
  have hz : (strB bs).size = bs.length := rfl
  have hE := ev_idle kd en n bs ra rl rc hP
  clear k hX1 hU1
  go_upto_region 7 with fail
  go_cut [9] (fun s9 wx => ∃ ob : Bool, s9 = .bool ob ∧ (ob = true ↔ (kd = 1 ∧ 0 ≤ en ∧ en < c)) ∧ wx = w2)
  case first =>
    by_cases h1 : kd = 1
    · by_cases h2 : 0 ≤ en
      · by_cases h3 : en < c
        · have d1 : decide (0 ≤ en) = true := decide_eq_true h2
          have d2 : decide (en < (c : Int)) = true := decide_eq_true h3
          subst h1
          go_wp2_with fail
          go_meet
          case rel => exact ⟨true, rfl, by simp [h2, h3], rfl⟩
        · have d1 : decide (0 ≤ en) = true := decide_eq_true h2
          have d2 : decide (en < (c : Int)) = false := decide_eq_false h3
          subst h1
          go_wp2_with fail
          go_meet
          case rel => exact ⟨false, rfl, by simp; omega, rfl⟩
      · have d1 : decide (0 ≤ en) = false := decide_eq_false h2
        subst h1
        go_wp2_with fail
        go_meet
        case rel => exact ⟨false, rfl, by simp; omega, rfl⟩
    · have d0 : (kd == 1) = false := by simpa using h1
      go_wp2_with fail
      go_meet
      case rel => exact ⟨false, rfl, by simp; omega, rfl⟩
  case rest =>
    obtain ⟨ob, rfl, hob, rfl⟩ := hcut
    have wct : IntKind.i64.wrap ((c : Int) + (t : Int)) = (c : Int) + (t : Int) := IntWalk.i64_in _ (by omega)
    go_upto_region 8 with fail
    go_cut [10] (fun s10 wx => ∃ xb : Bool, s10 = .bool xb ∧ (xb = true ↔ (kd = 8 ∧ en = c + t ∧ bs.length ≤ 512)) ∧ wx = wc)
    case first =>
      by_cases h1 : kd = 8
      · by_cases h2 : en = c + t
        · by_cases h3 : bs.length ≤ 512
          · have d1 : (en == (c : Int) + (t : Int)) = true := by simpa using h2
            have d2 : decide ((bs.length : Int) ≤ 512) = true := decide_eq_true (by omega)
            have d3 : decide (bs.length ≤ 512) = true := decide_eq_true h3
            have H2 := Lib.hid h2
            clear h2
            subst h1
            go_wp2_with fail
            go_meet
            case rel => exact ⟨true, rfl, by simp [H2.out, h3], rfl⟩
          · have d1 : (en == (c : Int) + (t : Int)) = true := by simpa using h2
            have d2 : decide ((bs.length : Int) ≤ 512) = false := decide_eq_false (by omega)
            have d3 : decide (bs.length ≤ 512) = false := decide_eq_false h3
            have H2 := Lib.hid h2
            clear h2
            subst h1
            go_wp2_with fail
            go_meet
            case rel => exact ⟨false, rfl, by simp; omega, rfl⟩
        · have d1 : (en == (c : Int) + (t : Int)) = false := by simpa using h2
          subst h1
          go_wp2_with fail
          go_meet
          case rel => exact ⟨false, rfl, by simp; omega, rfl⟩
      · have d0 : (kd == 8) = false := by simpa using h1
        go_wp2_with fail
        go_meet
        case rel => exact ⟨false, rfl, by simp; omega, rfl⟩
    case rest =>
      obtain ⟨xb, rfl, hxb, rfl⟩ := hcut
      have hgood : (ob = true ∨ xb = true) ↔ goodEv c t kd en bs := by
        rw [hob, hxb]; rfl
      go_wp2_with fail
      refine hE.mono ?_
      rintro e w3 (⟨hg, rfl, hU⟩ | ⟨code, hg, hc0, rfl, hp⟩)
      · have hU3 := hP.below hU hU2 hb
        have hor := hgood.2 hg
        cases ob <;> cases xb
        · simp at hor
        all_goals
          clear hor hgood hob hxb hg
          go_wp2_with fail
          go_ret
          exact ⟨rfl, hU3⟩
      · have hob0 : ob = false := by
          cases ob
          · rfl
          · exact absurd (hgood.1 (Or.inl rfl)) hg
        have hxb0 : xb = false := by
          cases xb
          · rfl
          · exact absurd (hgood.1 (Or.inr rfl)) hg
        subst hob0 hxb0
        have hU3 := hP.below hp.2 hU2 hb
        have hP3 := hp.1
        clear hp hgood hg hob hxb hE hP hU2 x0 x1 x2 x3 x4 hX2
        go_wp2_with fail
        go_loopw [13] (fun i wr => ∃ k : Nat, k ≤ c + t ∧ i = .int .i64 k ∧ wr = w3) (fun i _ => c + t - (intOf i).toNat)
        case atStart => exact ⟨0, Nat.zero_le _, rfl, rfl⟩
        case round =>
          obtain ⟨k, hk, rfl, rfl⟩ := hrel
          by_cases hlt : k < c + t
          · have hx : (PortM.new c t 8).at? k = some (EndM.reset 0) := by
              rw [PortM.at?_nat]
              show (List.replicate _ _)[k]? = _
              rw [List.getElem?_replicate, if_pos hlt]
            have hS := pt_state k hP3
            have hW := pt_waiting k hP3
            have hR := pt_room k hP3
            have e1 : PortM.state (PortM.new c t 8) k = (0, 0) := by unfold PortM.state; rw [hx]; rfl
            have e2 : PortM.waiting (PortM.new c t 8) k = 0 := by unfold PortM.waiting; rw [hx]; rfl
            have e3 : PortM.roomOf (PortM.new c t 8) k = 0 := by unfold PortM.roomOf; rw [hx]; rfl
            rw [e1] at hS
            rw [e2] at hW
            rw [e3] at hR
            go_wp2_with fail
            refine hS.mono ?_
            rintro e w' ⟨rfl, rfl⟩
            go_wp2_with fail
            refine hW.mono ?_
            rintro e w' ⟨rfl, rfl⟩
            go_wp2_with fail
            refine hR.mono ?_
            rintro e w' ⟨rfl, rfl⟩
            go_wp2_with fail
            go_roundw
            case rel => exact ⟨k + 1, hlt, by go_num, by first | rfl | trivial⟩
            case measure => simp [intOf]; omega
          · obtain rfl : k = c + t := by omega
            have hA := pt_accept hP3
            have e1 : PortM.acceptA (PortM.new c t 8) = (0, 5) := by
              unfold PortM.acceptA PortM.newIx
              have : (PortM.new c t 8).ends.findIdx (fun e => e.fresh) = (PortM.new c t 8).ends.length := List.findIdx_eq_length.2 (fun x hx => by
                have := (List.mem_replicate.1 hx).2
                subst this; rfl)
              rw [this, if_neg (Nat.lt_irrefl _)]
            have e2 : PortM.accepted (PortM.new c t 8) = PortM.new c t 8 := by
              unfold PortM.accepted PortM.newIx
              have : (PortM.new c t 8).ends.findIdx (fun e => e.fresh) = (PortM.new c t 8).ends.length := List.findIdx_eq_length.2 (fun x hx => by
                have := (List.mem_replicate.1 hx).2
                subst this; rfl)
              rw [this, List.getElem?_eq_none (Nat.le_refl _)]
            rw [e1, e2] at hA
            go_wp2_with fail
            refine hA.mono ?_
            rintro e w4 ⟨rfl, hp⟩
            have hU4 := hP3.below hp.2 hU3 hb
            have hP4 := hp.1
            have hG := pt_gram_none hP4 rfl
            clear hA hp hP3 hU3 e1 e2
            go_wp2_with fail
            refine hG.mono ?_
            rintro e w' ⟨rfl, rfl⟩
            have hO := pt_outs hP4
            go_wp2_with fail
            refine hO.mono ?_
            rintro e w5 ⟨ov, rfl, hov, _, l5, hP5, hu5, _⟩
            have hU5 := hP4.below hu5 hU4 hb
            have hUs := pt_used hP5
            have e5 : PortM.used { PortM.new c t 8 with outs := [] } = 0 := used_idle c t 8
            rw [e5] at hUs
            obtain ⟨oa, oc, rfl⟩ := hov.shape
            have hc1 : ¬ (code : Int) = 0 := by omega
            have hc2 : ((code : Int) == 0) = false := by simpa using hc0
            have hc3 : ((code : Int) != 0) = true := by simpa using hc0
            clear hG hO hP4 hU4 hov hu5
            go_wp2_with fail
            refine hUs.mono ?_
            rintro e w' ⟨rfl, rfl⟩
            go_wp2_with fail
            go_ret
            exact ⟨rfl, hU5⟩

end Go.Proofs.Ytnbhgfnjnccakaa
