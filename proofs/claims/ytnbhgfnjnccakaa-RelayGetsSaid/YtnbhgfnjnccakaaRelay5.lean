/- The law RelayGets: the walk. -/
import Derived.Test.YtnbhgfnjnccakaaRelay4
namespace Go.Proofs.Ytnbhgfnjnccakaa
open Go Go.RowKit
set_option linter.unusedVariables false

theorem gets_og {ys : List UInt8} {q m : Nat} (hq : q < ys.length) (hy : ys.length ≤ 64) : og (ys.drop q) (100 - min q ys.length) m = min m (ys.length - q) ∧ og [] 0 m = 0 := by
  unfold og
  rw [List.length_drop]
  exact ⟨by omega, by simp⟩
theorem gets_step {ys : List UInt8} {os : List OutM} {q m : Nat} (hq : q < ys.length) (hy : ys.length ≤ 64) (hm : 1 ≤ m) :
    openStep 64 (ys.drop q) 0 [] (100 - min q ys.length) os m = pairP 64 (openE (ys.drop (q + m)) 0) (openE [] (100 - min (q + m) ys.length)) (os ++ [⟨2, 2, strB ((ys.drop q).take m), DestM.zero⟩]) := by
  obtain ⟨e1, e2⟩ := gets_og (m := m) hq hy
  unfold openStep
  rw [e1, e2]
  have d1 : (ys.drop q).drop (min m (ys.length - q)) = ys.drop (q + m) := by
    rw [List.drop_drop]
    by_cases h : m ≤ ys.length - q
    · rw [Nat.min_eq_left h]
    · rw [List.drop_eq_nil_of_le (by omega), List.drop_eq_nil_of_le (by omega)]
  have d2 : (ys.drop q).take (min m (ys.length - q)) = (ys.drop q).take m := by
    rw [List.take_eq_take_iff, List.length_drop]; omega
  rw [d1, d2]
  unfold payO
  rw [if_pos rfl, if_neg (by omega)]
  have r1 : 100 - min q ys.length - min m (ys.length - q) = 100 - min (q + m) ys.length := by omega
  rw [r1]
  rfl

/-- What holds between two steps. -/
def GetsRel (w : World) (b : Nat) (ys : List UInt8) (m s : Nat) (wr : World) : Prop :=
  ∃ l os, PortAt wr w.heap.size b l (pairP 64 (openE (ys.drop (s * m)) 0) (openE [] (100 - min (s * m) ys.length)) os) ∧ os.length = s ∧ dataB os = ys.take (s * m) ∧ (s = 0 ∨ (s - 1) * m < ys.length) ∧ Upd [] w wr

theorem dataB_pre {os : List OutM} {k n : Nat} (h : (dataB os).length ≤ n) : (dataB (os.take k)).length ≤ n := by
  have : dataB os = dataB (os.take k) ++ dataB (os.drop k) := by rw [← dataB_append, List.take_append_drop]
  rw [this, List.length_append] at h
  omega

theorem gets_count {s m n : Nat} (hm : 1 ≤ m) (h1 : s = 0 ∨ (s - 1) * m < n) (h2 : ¬ s * m < n) : (n + m - 1) / m = s := by
  rcases h1 with rfl | h1
  · simp at h2
    rw [h2]
    exact Nat.div_eq_of_lt (by omega)
  · obtain ⟨t, rfl⟩ : ∃ t, s = t + 1 := by
      cases s with
      | zero => simp at h2; simp at h1; omega
      | succ t => exact ⟨t, rfl⟩
    rw [Nat.succ_mul] at h2
    simp only [Nat.add_sub_cancel] at h1
    rw [Nat.div_eq_iff (by omega), Nat.succ_mul]
    omega

set_option maxHeartbeats 2000000 in
set_option maxRecDepth 100000 in
theorem relayGets_law (w : World) (s : ByteArray) (hs : s.size ≤ 140737488355328) (most : Int) :
    Calls Try.prog 11 #[.string s, .int .i64 most] w (Fine w (.bool true)) := by
  obtain ⟨bs, rfl⟩ : ∃ bs, s = strB bs := ⟨s.data.toList, rfl⟩
  have hbl : bs.length ≤ 140737488355328 := hs
  have hr := among_range most 20 (by decide)
  obtain ⟨m, hm⟩ : ∃ m : Nat, 1 + among most 20 = m := ⟨(1 + among most 20).toNat, by omega⟩
  have wm : IntKind.i64.wrap (1 + among most 20) = (m : Int) := by rw [IntWalk.i64_in _ (by omega)]; exact hm
  have hm1 : 1 ≤ m := by omega
  have hm2 : m ≤ 20 := by omega
  go_enter Try.func11, Try.ntmps11
  go_wp2_with fail
  refine (relay_works _).mono ?_
  rintro e w0 ⟨rfl, hU0⟩
  go_wp2_with fail
  refine (both_ok 64 w0 (by decide) (by decide)).mono ?_
  rintro e w1 ⟨b, l, c, L, rfl, T⟩
  have h1 : PortAt w1 w.heap.size b l ⟨2, 64, [EndM.reset 1, EndM.reset 1, EndM.reset 1, EndM.reset 0], [], []⟩ := T.P.mono hU0.size
  have hU1 := hU0.trans_same T.U
  have hb : w.heap.size ≤ w.heap.size := Nat.le_refl _
  clear T hU0
  go_wp2_with fail
  refine (among_any most 20 _ (by decide) (by decide)).mono ?_
  rintro e w' ⟨rfl, rfl⟩
  have hD : Calls Try.prog 17 #[.pointer (some ⟨b, 0, none⟩), evV 2 0 0 bs none 0 0] w1 (EvPost w1 w.heap.size b l (putK 64 [] bs) 0 ⟨2, 64, [openE ([] ++ bs.take (putK 64 [] bs)) 0, EndM.reset 1, EndM.reset 1, EndM.reset 0], [], []⟩) := ev_data_ok 0 bs hbl none 0 0 (i := 0) h1 rfl rfl rfl
  obtain ⟨ys, hys⟩ : ∃ ys, ys = bs.take (putK 64 [] bs) := ⟨_, rfl⟩
  have hyl : ys.length = putK 64 [] bs ∧ putK 64 [] bs ≤ 64 ∧ putK 64 [] bs ≤ bs.length := by
    rw [hys, List.length_take]; unfold putK; simp; omega
  rw [← hys, List.nil_append] at hD
  generalize putK 64 [] bs = n at *
  go_wp2_with fail
  refine hD.mono ?_
  rintro e w2 ⟨rfl, hp⟩
  have hU2 := h1.below hp.2 hU1 hb
  have h2 := hp.1
  clear h1 hU1 hp hD
  have hE : Calls Try.prog 17 #[.pointer (some ⟨b, 0, none⟩), evV 5 2 100 [] none 0 0] w2 (EvPost w2 w.heap.size b l 0 0 (pairP 64 (openE ys 0) (openE [] 100) [])) := ev_room_ok 100 [] none 0 0 (i := 2) h2 rfl rfl
  go_wp2_with fail
  refine hE.mono ?_
  rintro e w3 ⟨rfl, hp⟩
  have hst : GetsRel w b ys m 0 w3 := ⟨l, [], by rw [Nat.zero_mul]; exact hp.1, rfl, by simp [dataB], Or.inl rfl, h2.below hp.2 hU2 hb⟩
  clear h2 hU2 hp hE
  go_wp2_with fail
  go_loopw [10] (fun i wr => ∃ k : Nat, k ≤ 64 ∧ i = .int .i64 k ∧ GetsRel w b ys m k wr) (fun i _ => 64 - (intOf i).toNat)
  case atStart => exact ⟨0, Nat.zero_le _, rfl, hst⟩
  case round =>
    clear hst
    obtain ⟨k, hk, rfl, l, os, hP, hol, hda, hcn, hU⟩ := hrel
    have hW : Calls Try.prog 26 #[.pointer (some ⟨b, 0, none⟩), .int .i64 0] wr fun e w' => e = .returned (.int .i64 ((ys.length - k * m : Nat) : Int)) ∧ wr = w' := by
      have := pt_waiting 0 hP
      have e : (pairP 64 (openE (ys.drop (k * m)) 0) (openE [] (100 - min (k * m) ys.length)) os).waiting 0 = ys.length - k * m := by
        show (ys.drop (k * m)).length = _
        rw [List.length_drop]
      rw [e] at this
      exact this
    by_cases hlt : k * m < ys.length
    · have hk64 : k < 64 := by
        have : k * 1 ≤ k * m := Nat.mul_le_mul_left _ hm1
        omega
      have hS : Calls Try.prog 38 #[.pointer (some ⟨b, 0, none⟩), .int .i64 0, .int .i64 2, .int .i64 m] wr fun e w' => e = .returned (.tuple #[.int .i64 ((min m (ys.length - k * m) : Nat) : Int), .bool false, .int .i64 0]) ∧ PPost wr w.heap.size b l (pairP 64 (openE (ys.drop (k * m + m)) 0) (openE [] (100 - min (k * m + m) ys.length)) (os ++ [⟨2, 2, strB ((ys.drop (k * m)).take m), DestM.zero⟩])) w' := by
        have := rl_step 0 2 m hP (by show os.length < _; omega)
        obtain ⟨a1, a2⟩ := open_step (size := 64) (os := os) (xa := ys.drop (k * m)) (ra := 0) (xb := []) (rb := 100 - min (k * m) ys.length) m hm1
        obtain ⟨o1, o2⟩ := gets_og (m := m) hlt (by omega)
        rw [a1, a2, gets_step hlt (by omega) hm1, o1, o2] at this
        exact this
      have hn1 : 1 ≤ min m (ys.length - k * m) ∧ min m (ys.length - k * m) ≤ m := by omega
      have hwp : 0 < ys.length - k * m := by omega
      have hdat : dataB (os ++ [⟨2, 2, strB ((ys.drop (k * m)).take m), DestM.zero⟩]) = ys.take ((k + 1) * m) := by
        rw [dataB_append, dataB_one, hda, Nat.succ_mul, List.take_add]
      have hol' : (os ++ [(⟨2, 2, strB ((ys.drop (k * m)).take m), DestM.zero⟩ : OutM)]).length = k + 1 := by rw [List.length_append, hol]; rfl
      have hcn' : (k + 1 = 0 ∨ (k + 1 - 1) * m < ys.length) := Or.inr (by simpa using hlt)
      rw [show k * m + m = (k + 1) * m by rw [Nat.succ_mul]] at hS
      generalize min m (ys.length - k * m) = n1 at *
      generalize ys.length - k * m = wt at *
      generalize os ++ [⟨2, 2, strB ((ys.drop (k * m)).take m), DestM.zero⟩] = os' at *
      clear hda hcn hol
      go_wp2_with fail
      refine hW.mono ?_
      rintro e w' ⟨rfl, rfl⟩
      go_wp2_with fail
      refine hS.mono ?_
      rintro e w5 ⟨rfl, l5, hP5, hu5, hW5⟩
      have hR : GetsRel w b ys m (k + 1) w5 := ⟨l5, os', hP5, hol', hdat, hcn', hP.below hu5 hU hb⟩
      go_wp2_with fail
      go_roundw
      case rel => exact ⟨k + 1, by omega, by go_num, hR⟩
      case measure => simp [intOf]; omega
    · have hz : ys.length - k * m = 0 := by omega
      rw [hz] at hW
      have hcount := gets_count hm1 hcn hlt
      have hall : dataB os = bs.take n := by rw [hda, ← hys, List.take_of_length_le (by omega)]
      have hdl : (dataB os).length ≤ 64 := by rw [hall, ← hys]; omega
      have hO := pt_outs hP
      clear hlt hda hcn hz
      go_wp2_with fail
      refine hW.mono ?_
      rintro e w' ⟨rfl, rfl⟩
      go_wp2_with fail
      refine hO.mono ?_
      rintro e w7 ⟨ov, rfl, hov, hot, l7, h7, hu7, hW7⟩
      have hU7 := hP.below hu7 hU hb
      have hov : Own w7 w.heap.size 51 10 ov os.length (outsC os) := hov
      obtain ⟨ao, co, rfl⟩ := hov.shape
      clear hO hP hot h7 hu7 hW7 hW hU
      go_wp2_with fail
      go_loopw [14, 16] (fun gv iv wr => ∃ j : Nat, j ≤ os.length ∧ iv = .int .i64 j ∧ (∃ g, gv = .string (strB g) ∧ g = dataB (os.take j)) ∧ wr = w7) (fun _ iv _ => os.length - (intOf iv).toNat)
      case atStart => exact ⟨0, Nat.zero_le _, rfl, ⟨[], rfl, rfl⟩, rfl⟩
      case round =>
        obtain ⟨j, hj, rfl, ⟨g, rfl, hg⟩, rfl⟩ := hrel
        by_cases hlt : j < os.length
        · obtain ⟨g1, o1, c1', pre1, rest1, hv1, _, _, _, _, hnc, hcm⟩ := hov.blk (by intro h; injection h with _ h; omega)
          cases hv1
          clear hnc hcm
          obtain ⟨o, hp⟩ : ∃ o, os[j]? = some o := ⟨os[j], List.getElem?_eq_getElem (by omega)⟩
          obtain ⟨db, hdb⟩ : ∃ db, o.data = strB db := ⟨o.data.data.toList, rfl⟩
          have x3 := hov.cell rfl (outsC_at hp (j := 3) (u := .string (strB db)) (by rw [← hdb]; rfl))
          rw [← Nat.add_assoc] at x3
          have e1 : (⟨g1, o1, none⟩ : Addr).add (j * 10) = ⟨g1, o1 + j * 10, none⟩ := addr_add _ _ _
          have hg' : g ++ db = dataB (os.take (j + 1)) := by rw [take_succ_data hp, ← hg, hdb]; simp [strB]
          have hgl : (g ++ db).length ≤ 64 := by rw [hg']; exact dataB_pre hdl
          have s1 : ¬ 9223372036854775807 < (strB g).size + (strB db).size := by
            show ¬ 9223372036854775807 < g.length + db.length
            rw [List.length_append] at hgl; omega
          have e2 := strB_append g db
          have Hg' := Lib.hid hg'
          clear hp hg hg' hdb
          go_wp2_with fail
          go_roundw
          case rel => exact ⟨j + 1, hlt, by go_num, ⟨_, rfl, Hg'.out⟩, by first | rfl | trivial⟩
          case measure => simp [intOf]; omega
        · obtain rfl : j = os.length := by omega
          have hgb : g = bs.take n := by rw [hg, List.take_length]; exact hall
          subst hgb
          have e1 := strB_extract bs n
          have e3 : (strB bs).size = bs.length := rfl
          have hn1 : n ≤ bs.length := hyl.2.2
          have hle : ((n : Nat) : Int) ≤ (bs.length : Nat) := by omega
          have w1' : IntKind.i64.wrap ((n : Int) + (m : Int)) = ((n + m : Nat) : Int) := by rw [IntWalk.i64_in _ (by omega)]; omega
          have w2' : IntKind.i64.wrap (((n + m : Nat) : Int) - 1) = ((n + m - 1 : Nat) : Int) := by rw [IntWalk.i64_in _ (by omega)]; omega
          have hmz : ¬ m = 0 := by omega
          have hq : Int.tdiv ((n + m - 1 : Nat) : Int) (m : Int) = (k : Int) := by
            rw [hyl.1] at hcount
            rw [← hcount]; rfl
          have hq2 : ((n : Int) + (m : Int) - 1) / (m : Int) = (k : Int) := by
            rw [hyl.1] at hcount
            have e : ((n : Int) + (m : Int) - 1) = ((n + m - 1 : Nat) : Int) := by omega
            rw [e, ← Int.natCast_ediv, hcount]
          have hq3 : ((k : Int) == ((n : Int) + (m : Int) - 1) / (m : Int)) = true := by rw [hq2]; simp
          clear hall hg hcount
          go_wp2_with fail
          go_ret
          exact ⟨rfl, hU7⟩

end Go.Proofs.Ytnbhgfnjnccakaa
