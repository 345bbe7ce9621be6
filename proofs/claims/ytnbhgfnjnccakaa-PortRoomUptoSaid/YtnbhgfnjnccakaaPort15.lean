/- What goes out at an endpoint is never more than its room: the walk of the law PortRoom, for no more than 2^20 sends. -/
import Derived.Test.YtnbhgfnjnccakaaPort14
namespace Go.Proofs.Ytnbhgfnjnccakaa
open Go Go.RowKit
set_option linter.unusedVariables false

set_option maxHeartbeats 4000000 in
set_option maxRecDepth 100000 in
theorem portRoom_law (w : World) (a0 : Option Addr) (len0 cap0 : Nat) (zs : List Int) (h0 : IRow w a0 len0 zs) (hl0 : len0 ≤ 9223372036854775807)
    (a1 : Option Addr) (len1 cap1 : Nat) (z : Nat → List UInt8) (h1 : SRows w a1 len1 z) (hl1 : len1 ≤ 9223372036854775807) (fin : Int) (u0 : len0 ≤ 1048576) (u1 : len1 ≤ 1048576) :
    Calls Try.prog 4 #[.slice a0 len0 cap0, .slice a1 len1 cap1, .int .i64 fin] w (Fine w (.bool true)) := by
  obtain ⟨_, h1⟩ := h1
  go_enter Try.func4, Try.ntmps4
  go_wp2_with fail
  refine (port_works _).mono ?_
  rintro e w1 ⟨rfl, hU1⟩
  go_wp2_with fail
  refine (pt_new 1 0 8 _ (by decide) (by decide) (by decide) (by decide)).mono ?_
  rintro e w2 ⟨b, l, rfl, hP, k2⟩
  have hb := hU1.size
  have hU2 := hU1.trans_same k2
  have hP : PortAt w2 w1.heap.size b l ⟨1, 8, [EndM.reset 0], [], []⟩ := hP
  go_wp2_with fail
  have hO : Calls Try.prog 17 #[.pointer (some ⟨b, 0, none⟩), evV 1 0 0 [] none 0 0] w2 (EvPost w2 w1.heap.size b l 0 0 ⟨1, 8, [⟨[], 1, 0, true, false, false⟩], [], []⟩) := ev_open_ok 0 [] none 0 0 (i := 0) hP rfl (by decide) rfl
  refine hO.mono ?_
  rintro e w3 ⟨rfl, hp⟩
  have hU3 := hP.below hp.2 hU2 hb
  have hst : RoomRel w b fin 0 0 0 0 [] false w3 := ⟨⟨l, 0, [], hp.1.mono hb, rfl, rfl, Nat.le_refl _⟩, Nat.le_refl _, (fun h => by cases h), hU3⟩
  clear hP hO hU2 hU3 hp hb k2 hU1
  go_wp2_with fail
  go_loopw [9, 10, 11, 12] (fun gv nv ov i wr => ∃ k : Nat, k ≤ len1 ∧ i = .int .i64 k ∧ ∃ (given : Nat) (gone : List UInt8) (over : Bool), gv = .int .i64 given ∧ nv = .string (strB gone) ∧ ov = .bool over ∧ RoomRel w b fin k (2 * k) k given gone over wr) (fun _ _ _ i _ => len1 - (intOf i).toNat)
  case atStart => exact ⟨0, Nat.zero_le _, rfl, 0, [], false, rfl, rfl, rfl, hst⟩
  case round =>
    clear hst
    obtain ⟨k, hk, rfl, given, gone, over, rfl, rfl, rfl, hR⟩ := hrel
    by_cases hlt : k < len1
    · obtain ⟨x, rfl, hx0, hzl⟩ := h1 k hlt
      generalize hzk : z k = zk at *
      clear h1
      go_upto_if 43 with fail
      go_cut [9] (fun s9 wx => ∃ given' : Nat, s9 = .int .i64 given' ∧ RoomRel w b fin (k + 1) (2 * k) k given' gone over wx)
      case first =>
        by_cases hk0 : k < len0
        · obtain ⟨y, rfl, hy0⟩ := h0 k hk0
          have hy1 : wr.cell? (y.add k) = some (.int .i64 (zs.getD k 0)) := by rw [hR.upd.cell (World.block_lt_of_cell? _ _ hy0) (by simp)]; exact hy0
          generalize zs.getD k 0 = c at *
          have hle := hR.le
          clear h0
          by_cases hc1 : c ≤ 0
          · have hE := hR.room 0 (by decide) (by omega)
            have d1 : ¬ 5000 < c := by omega
            have d2 : ¬ 0 < c := by omega
            go_wp2_with fail
            refine hE.mono ?_
            rintro e w4 ⟨rfl, hR4⟩
            go_wp2_with fail
            go_meet
            case rel => exact ⟨given, rfl, hR4⟩
          · obtain ⟨cn, rfl⟩ := Int.eq_ofNat_of_zero_le (show 0 ≤ c by omega)
            by_cases hc2 : (cn : Int) ≤ 5000
            · have hE := hR.room cn (by omega) (by omega)
              have d1 : ¬ (5000 : Int) < (cn : Int) := by omega
              have d2 : 0 < cn := by omega
              have ew : IntKind.i64.wrap ((given : Int) + (cn : Int)) = (given : Int) + (cn : Int) := IntWalk.i64_in _ (by omega)
              go_wp2_with fail
              refine hE.mono ?_
              rintro e w4 ⟨rfl, hR4⟩
              go_wp2_with fail
              go_meet
              case rel => exact ⟨given + cn, by push_cast; rfl, hR4⟩
            · have hE := hR.room 5000 (by decide) (by omega)
              have d1 : (5000 : Int) < (cn : Int) := by omega
              have ew : IntKind.i64.wrap ((given : Int) + 5000) = (given : Int) + 5000 := IntWalk.i64_in _ (by omega)
              go_wp2_with fail
              refine hE.mono ?_
              rintro e w4 ⟨rfl, hR4⟩
              go_wp2_with fail
              go_meet
              case rel => exact ⟨given + 5000, by push_cast; rfl, hR4⟩
        · clear h0
          go_wp2_with fail
          go_meet
          case rel => exact ⟨given, rfl, hR.more (Nat.le_succ _) (Nat.le_refl _) (Nat.le_refl _)⟩
      case rest =>
        clear h0
        obtain ⟨given', rfl, hR4⟩ := hcut
        clear hR
        go_upto_if 59 with fail
        go_cut [11] (fun s11 wx => ∃ over', s11 = .bool over' ∧ RoomRel w b fin (k + 1) (2 * k + 1) (k + 1) given' gone over' wx)
        case first =>
          by_cases hf : (k : Int) = fin
          · have hov : over = false := by
              cases over
              · rfl
              · have := hR4.once rfl; omega
            subst hov
            have hE := hR4.end1 (by omega) (k + 1) (by omega)
            subst hf
            go_wp2_with fail
            refine hE.mono ?_
            rintro e w5 ⟨rfl, hR5⟩
            have hE2 := hR5.end2 (by omega)
            go_wp2_with fail
            refine hE2.mono ?_
            rintro e w6 ⟨rfl, hR6⟩
            go_wp2_with fail
            go_meet
            case rel => exact ⟨true, rfl, hR6⟩
          · have hf' : ((k : Int) == fin) = false := by simpa using hf
            go_wp2_with fail
            go_meet
            case rel => exact ⟨over, rfl, hR4.more (Nat.le_refl _) (Nat.le_succ _) (Nat.le_succ _)⟩
        case rest =>
          obtain ⟨over', rfl, hR5⟩ := hcut
          clear hR4
          have hx5 : wc.cell? (x.add k) = some (.string (strB zk)) := by rw [hR5.upd.cell (World.block_lt_of_cell? _ _ hx0) (by simp)]; exact hx0
          obtain ⟨cc, w6, hcv, hrd, hku⟩ := conv_bytes wc zk hzl
          have hS := hR5.send (by omega) hku hrd hzl (fun q hq => by cases hq; exact Nat.le_refl _)
          have hw : sendWant given' gone over' zk ≤ zk.length := by
            unfold sendWant
            cases over'
            · simp only [Bool.false_eq_true, if_false]; omega
            · simp
          have hle5 := hR5.le
          have hgl : gone.length ≤ given' := by obtain ⟨⟨l, room, os, _, q1, _, _⟩, _⟩ := hR5; omega
          have hwd : sendWant given' gone over' zk = if over' then 0 else min zk.length (given' - gone.length) := rfl
          have Hwd := Lib.hid hwd
          clear hwd
          generalize sendWant given' gone over' zk = m at *
          have e1 : (strB zk).extract 0 m = strB (zk.take m) := strB_extract zk m
          have e2 : strB gone ++ strB (zk.take m) = strB (gone ++ zk.take m) := strB_append _ _
          have e3 : (strB zk).size = zk.length := rfl
          have e4 : (strB gone).size = gone.length := rfl
          have s1 : ¬ 9223372036854775807 < (strB gone).size + (strB (zk.take m)).size := by
            show ¬ 9223372036854775807 < gone.length + (zk.take m).length
            rw [List.length_take]; omega
          have ew : IntKind.i64.wrap ((given' : Int) - (gone.length : Int)) = ((given' - gone.length : Nat) : Int) := by rw [IntWalk.i64_in _ (by omega)]; omega
          go_wp2_with fail
          refine hS.mono ?_
          rintro e w7 ⟨rfl, hR7⟩
          have hx7 : w7.cell? (x.add k) = some (.string (strB zk)) := by rw [hR7.upd.cell (World.block_lt_of_cell? _ _ hx0) (by simp)]; exact hx0
          clear hS hcv hrd hku hx5 hR5
          generalize given' - gone.length = d at *
          clear hgl hle5
          cases over'
          · have hm : m = min zk.length d := by rw [Hwd.out]; rfl
            clear Hwd
            by_cases hmm : d < zk.length
            · obtain rfl : m = d := by omega
              clear hm hw
              go_wp2_with fail
              go_roundw
              case rel => exact ⟨k + 1, hlt, by go_num, given', gone ++ zk.take m, false, rfl, rfl, rfl, hR7.more (Nat.le_refl _) (by omega) (Nat.le_refl _)⟩
              case measure => simp [intOf]; omega
            · obtain rfl : m = zk.length := by omega
              clear hm hw e1
              have e1 : (strB zk).extract 0 zk.length = strB zk := by rw [strB_extract, List.take_length]
              rw [List.take_length] at e2 s1 hR7
              go_wp2_with fail
              go_roundw
              case rel => exact ⟨k + 1, hlt, by go_num, given', gone ++ zk, false, rfl, rfl, rfl, hR7.more (Nat.le_refl _) (by omega) (Nat.le_refl _)⟩
              case measure => simp [intOf]; omega
          · have hm : m = 0 := by rw [Hwd.out]; rfl
            subst hm
            clear Hwd
            by_cases hmm : d < zk.length
            · go_wp2_with fail
              go_roundw
              case rel => exact ⟨k + 1, hlt, by go_num, given', gone ++ zk.take 0, true, rfl, by first | rfl | simp, rfl, hR7.more (Nat.le_refl _) (by omega) (Nat.le_refl _)⟩
              case measure => simp [intOf]; omega
            · go_wp2_with fail
              go_roundw
              case rel => exact ⟨k + 1, hlt, by go_num, given', gone ++ zk.take 0, true, rfl, by first | rfl | simp, rfl, hR7.more (Nat.le_refl _) (by omega) (Nat.le_refl _)⟩
              case measure => simp [intOf]; omega
    · obtain rfl : k = len1 := by omega
      clear h0 h1
      obtain ⟨⟨l2, room, os, hP, q1, q2, q3⟩, q4, q5, hU⟩ := hR
      have hO := pt_outs hP
      go_wp2_with fail
      refine hO.mono ?_
      rintro e w4 ⟨ov, rfl, hov, _, l4, hP4, hu4, _⟩
      have hU4 := hP.below hu4 hU (Nat.le_refl _)
      obtain ⟨oa, oc, rfl⟩ := hov.shape
      have hgl : gone.length ≤ given := by omega
      have hosl : os.length ≤ 2 * k := q3
      clear hO hP hU hu4 hP4 q5
      have hpre : ∀ j, (toldB (os.take j)).length ≤ gone.length := fun j => by
        have h : toldB os = toldB (os.take j) ++ toldB (os.drop j) := by rw [← toldB_append, List.take_append_drop]
        rw [← q2, h, List.length_append]; omega
      have hall : toldB (os.take os.length) = gone := by rw [List.take_length, q2]
      have Hall := Lib.hid hall
      clear hall q2
      go_wp2_with fail
      go_loopw [16, 18] (fun tv i wr => ∃ j : Nat, j ≤ os.length ∧ i = .int .i64 j ∧ tv = .string (strB (toldB (os.take j))) ∧ wr = w4) (fun _ i _ => os.length - (intOf i).toNat)
      case atStart => exact ⟨0, Nat.zero_le _, rfl, by rw [List.take_zero]; rfl, rfl⟩
      case round =>
        obtain ⟨j, hj, rfl, rfl, rfl⟩ := hrel
        by_cases hjl : j < os.length
        · obtain ⟨g, off, cap', pre, rest, hv, _, _, _, _, _, _⟩ := hov.blk (by intro h; injection h with _ h; omega)
          cases hv
          obtain ⟨o, ho⟩ : ∃ o, os[j]? = some o := ⟨os[j], List.getElem?_eq_getElem hjl⟩
          have x1 := hov.cell rfl (outsC_at (j := 1) ho rfl)
          have x3 := hov.cell rfl (outsC_at (j := 3) ho rfl)
          rw [← Nat.add_assoc] at x1 x3
          have eadd : (⟨g, off, none⟩ : Addr).add (j * 10) = ⟨g, off + j * 10, none⟩ := addr_add _ _ _
          have hst : toldB (os.take (j + 1)) = toldB (os.take j) ++ (if o.kind = 2 then o.data.data.toList else []) := by
            rw [List.take_add_one, ho, toldB_append]
            simp [toldB]
          have hp1 := hpre (j + 1)
          by_cases hkd : o.kind = 2
          · rw [if_pos hkd] at hst
            have hdata : o.data = strB o.data.data.toList := (strB_data _).symm
            generalize o.data.data.toList = db at *
            rw [hdata] at x3
            rw [hkd] at x1
            have e2 : strB (toldB (os.take j)) ++ strB db = strB (toldB (os.take j) ++ db) := strB_append _ _
            have s1 : ¬ 9223372036854775807 < (strB (toldB (os.take j))).size + (strB db).size := by
              show ¬ 9223372036854775807 < (toldB (os.take j)).length + db.length
              rw [hst, List.length_append] at hp1
              omega
            have Hst := Lib.hid hst
            clear hst hdata hp1 hpre ho
            generalize toldB (os.take j) = tb at *
            go_wp2_with fail
            go_roundw
            case rel => exact ⟨j + 1, hjl, by go_num, by rw [Hst.out], by first | rfl | trivial⟩
            case measure => simp [intOf]; omega
          · rw [if_neg hkd, List.append_nil] at hst
            have Hst := Lib.hid hst
            clear hst hp1 hpre ho
            go_wp2_with fail
            go_roundw
            case rel => exact ⟨j + 1, hjl, by go_num, by rw [Hst.out], by first | rfl | trivial⟩
            case measure => simp [intOf]; omega
        · obtain rfl : j = os.length := by omega
          rw [Hall.out]
          have e4 : (strB gone).size = gone.length := rfl
          have d1 : decide (gone.length ≤ given) = true := decide_eq_true hgl
          go_wp2_with fail
          go_ret
          exact ⟨rfl, hU4⟩


end Go.Proofs.Ytnbhgfnjnccakaa
