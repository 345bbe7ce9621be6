/- An entry at its last generation may be opened once more, and then never again: the walk of the law DescSpent. -/
import Derived.Test.YtfejlokinopjbaaDesc10
import Derived.Test.YtfejlokinopjbaaBase0
namespace Go.Proofs.Ytfejlokinopjbaa
open Go Go.RowKit
set_option linter.unusedVariables false

set_option maxHeartbeats 1000000 in
set_option maxRecDepth 100000 in
theorem descSpent_law (w : World) (entries index : Int) : Calls Try.prog 3 #[.int .i64 entries, .int .i64 index] w (Fine w (.bool true)) := by
  have hr := among_range entries 6 (by decide)
  obtain ⟨n, hn⟩ : ∃ n : Nat, 1 + among entries 6 = n := ⟨(1 + among entries 6).toNat, by omega⟩
  have wn : IntKind.i64.wrap (1 + among entries 6) = (n : Int) := by rw [IntWalk.i64_in _ (by omega)]; exact hn
  have hn7 : 1 ≤ n ∧ n < 7 := by omega
  have hr2 := among_range index n (by omega)
  obtain ⟨i, hi⟩ : ∃ i : Nat, among index n = i := ⟨(among index n).toNat, by omega⟩
  have hin : i < n := by omega
  have hok : spentOk n i = true := by
    have := List.all_eq_true.1 spent_all n (List.mem_range.2 hn7.2)
    exact List.all_eq_true.1 this i (List.mem_range.2 hin)
  go_enter Try.func3, Try.ntmps3
  go_wp2_with fail
  refine (desc_works _).mono ?_
  rintro e w1 ⟨rfl, hU1⟩
  go_wp2_with fail
  refine (among_any _ 6 _ (by decide) (by decide)).mono ?_
  rintro e w' ⟨rfl, rfl⟩
  go_wp2_with fail
  refine (among_any _ n _ (by omega) (by omega)).mono ?_
  rintro e w' ⟨rfl, rfl⟩
  rw [hi]
  clear hr hr2 wn hi hn
  go_wp2_with fail
  refine (tab_new n _ (by omega)).mono ?_
  rintro e w2 ⟨b, v, rfl, hT, k⟩
  have hU := hU1.trans_same k
  have hb := hU1.size
  clear k hU1
  obtain ⟨f1, f2, f3, f4, f5, f6, f7, f8⟩ := spent_facts hok
  go_wp2_with fail
  refine (tab_age i 1048576 hT).mono ?_
  rintro e w3 ⟨rfl, hp⟩
  have hU3 := hp.below hT hU hb
  have h0 : TabAt w3 w1.heap.size b v (spentT n i 0) := hp.1
  rw [f1]
  clear hp hT hU f1 hok
  go_wp2_with fail
  go_loopw [7] (fun j wr => ∃ k : Nat, k ≤ n ∧ j = .int .i64 k ∧ TabAt wr w1.heap.size b v (spentT n i k) ∧ Upd [] w wr) (fun j _ => n - (intOf j).toNat)
  case atStart => exact ⟨0, Nat.zero_le _, rfl, h0, hU3⟩
  case round =>
    clear h0 hU3
    obtain ⟨k, hk, rfl, hT, hU⟩ := hrel
    by_cases hlt : k < n
    · obtain ⟨g1, g2⟩ := f2 k hlt
      have hO := tab_open k k hT
      rw [g1, g2] at hO
      generalize (spentT n i k).openH.2 = hg at *
      go_wp2_with fail
      refine hO.mono ?_
      rintro e w4 ⟨rfl, hp⟩
      have hU4 := hp.below hT hU hb
      have hT4 : TabAt w4 w1.heap.size b v (spentT n i (k + 1)) := hp.1
      have k4 : Upd [] w4 (w4.alloc (.cells #[.int .i64 k, .int .i64 hg] 30)) := (Upd.refl _ _).alloc _
      have hB := blk_new' w4 30 #[.int .i64 k, .int .i64 hg]
      have z0 := hB.cell (i := 0) rfl
      have hT5 := hT4.upd k4 (by simp) (by simp)
      have hU5 := hU4.trans_same k4
      clear hp hT hU hO hT4 hU4 k4
      go_wp2_with fail
      go_roundw
      case rel => exact ⟨k + 1, hlt, by go_num, hT5, hU5⟩
      case measure => simp [intOf]; omega
    · obtain rfl : k = n := by omega
      clear f2 hlt
      generalize spentT k i k = t at *
      have hC := tab_close i 1048576 hT
      rw [f3] at hC
      go_wp2_with fail
      refine hC.mono ?_
      rintro e w4 ⟨rfl, hp⟩
      have hU4 := hp.below hT hU hb
      have hT4 := hp.1
      generalize t.turn i 1048576 EntM.closed = t4 at *
      clear hp hT hU hC
      have hO := tab_open 1 1 hT4
      rw [f4, f5] at hO
      go_wp2_with fail
      refine hO.mono ?_
      rintro e w5 ⟨rfl, hp⟩
      have hU5 := hp.below hT4 hU4 hb
      have hT5 := hp.1
      clear hp hT4 hU4 hO
      have hL := tab_lookup i 1048576 hT5
      rw [f6] at hL
      go_wp2_with fail
      refine hL.mono ?_
      rintro e w6 ⟨rfl, k6⟩
      have hT6 := hT5.upd k6 (by simp) (by simp)
      have hU6 := hU5.trans_same k6
      clear hT5 hU5 k6 hL
      have hUs := tab_used hT6
      have hAg := tab_age i 1048576 hT6
      rw [f7] at hUs
      rw [f8] at hAg
      have en : ((k - 1 : Nat) : Int) = (k : Int) - 1 := by omega
      rw [en] at hUs
      go_wp2_with fail
      refine hUs.mono ?_
      rintro e w' ⟨rfl, rfl⟩
      go_wp2_with fail
      refine hAg.mono ?_
      rintro e w7 ⟨rfl, hp⟩
      have hU7 := hp.below hT6 hU6 hb
      go_wp2_with fail
      go_ret
      exact ⟨rfl, hU7⟩

end Go.Proofs.Ytfejlokinopjbaa
