/- TopCaches: an answer that one client got comes to the next one byte for byte, without a dial, in each tenant by itself, and another tenant's client has it fetched anew: true for every text and every number, at variables that hold what the program's text lays (tied). No other condition. -/
import Derived.Test.YtnllmelmmcapcaaGreatDoorCards
import Derived.Test.YtnllmelmmcapcaaGreatDoorCbR
import Derived.Test.YtnllmelmmcapcaaGreatDoorCbT1
import Derived.Test.YtnllmelmmcapcaaGreatDoorCbT2
import Derived.Test.YtnllmelmmcapcaaGreatDoorCbT3
import Derived.Test.YtnllmelmmcapcaaGreatDoorCbQ
import Derived.LaidByTextLater
import Derived.SevenTiedAt
namespace Go.Proofs.YtnllmelmmcapcaaGreatDoor.topCaches
open Go
set_option linter.unusedVariables false
theorem tie : Tryz.prog.laidByTextLater laidL [.data, .data, .data, .data, .sentinel, .sentinel, .sentinel, .data] true :=
  Program.laidByTextLater_by_run 400 8 tie_hw tie_hw2 tie_hroot tie_hk tie_hg tie_hn tie_hd tie_h1 tie_h2 tie_hp
theorem topCaches_row_tie : Rows.topCachesRow.laidByTextAt .later Tryz.pinned [.pinned, .data, .pinned, .data, .data, .data, .sentinel, .sentinel, .sentinel, .data] true :=
  OpenClaim.laidByTextAt_pinned rfl rfl tie rfl rfl rfl rfl (fun y hy _e => by
    simp only [Rows.topCachesRow, List.zip_cons_cons, List.zip_nil_right, List.mem_cons, List.mem_nil_iff, or_false] at hy
    rcases hy with rfl | rfl | rfl | rfl | rfl | rfl | rfl | rfl | rfl | rfl
    · exact ⟨pin_laid_unicode_utf8_first, by kernel_rfl⟩
    · cases _e
    · exact ⟨pin_laid_unicode_CaseRanges, by kernel_rfl⟩
    · cases _e
    · cases _e
    · cases _e
    · cases _e
    · cases _e
    · cases _e
    · cases _e) fits1
theorem card : Rows.TopCachesCardSaid :=
  Claim7.holds_tied_plain_at .later [] [.pinned, .data, .pinned, .data, .data, .data, .sentinel, .sentinel, .sentinel, .data] true (true, "b76cb15db263b812b623ee6c1a063d7cc359f1c0f239aafc2aa6bc782a52ab2f") true
    over (fun _ h => by cases h) card_wf (fun _ h => by cases h) topCaches_row_tie rfl ⟨rfl, rfl⟩ card_main rfl
    (fun f fn hf hfn => by
      obtain rfl : f = 3 := Option.some.inj (named3.symm.trans hf) |>.symm
      obtain rfl : fn = Tryz.f3 := (Option.some.inj (Tryz.func3.symm.trans hfn)).symm
      exact ⟨card_looks, fun j t ht => by
        rw [Tryz.params3] at ht
        have hm : t ∈ [9, 3] := by simpa using Array.mem_of_getElem? ht
        exact (show Tryz.prog.wantsStandIn t = false by simpa using List.all_eq_true.1 card_stand t hm)⟩)
    card_goes
theorem proved : Rows.TopCachesCardSaid := card
#print axioms proved
end Go.Proofs.YtnllmelmmcapcaaGreatDoor.topCaches
