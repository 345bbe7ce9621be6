/- TopCaches: the card's closed facts: the row is well formed, the main package is the one named, and no go statement stands anywhere in the translation; and that the listed variables fit the list. -/
import Derived.Test.YtnllmelmmcapcaaGreatDoorCbT0
import Derived.LaidByTextLater
import Derived.SevenTiedAt
import Derived.Test.YtnllmelmmcapcaaGreatDoorCards
namespace Go.Proofs.YtnllmelmmcapcaaGreatDoor.topCaches
open Go
set_option linter.unusedVariables false
theorem fits1 : Tryz.pinned.checked.prog.listedFits [("unicode/utf8.first", Rows.laid_unicode_utf8_first), ("unicode/utf8.acceptRanges", Rows.laid_unicode_utf8_acceptRanges), ("unicode.CaseRanges", Rows.laid_unicode_CaseRanges), ("internal/strconv.uint64pow10", Rows.laid_internal_strconv_uint64pow10), ("math/bits.deBruijn32tab", Rows.laid_math_bits_deBruijn32tab), ("math/bits.deBruijn64tab", Rows.laid_math_bits_deBruijn64tab), ("bytes.ErrTooLarge", Rows.laid_bytes_ErrTooLarge), ("strconv.ErrSyntax", Rows.laid_strconv_ErrSyntax), ("strconv.ErrRange", Rows.laid_strconv_ErrRange), ("sallyport/digest.roots", Rows.laid_sallyport_digest_roots)] = true := by
  unfold Program.listedFits
  rw [noOwnUnsafe]
  kernel_rfl
end Go.Proofs.YtnllmelmmcapcaaGreatDoor.topCaches
namespace Go.Proofs.YtnllmelmmcapcaaGreatDoor.topCaches
open Go
set_option linter.unusedVariables false
theorem card_wf : (Rows.topCachesRow).wfByText (OpenSpec.ofChange Rows.topCachesSpec) = true := by kernel_rfl
theorem card_main : Tryz.pinned.checked.prog.mainIs = some (true, ("b76cb15db263b812b623ee6c1a063d7cc359f1c0f239aafc2aa6bc782a52ab2f" : String).toList) := by kernel_rfl
theorem card_stand : ([9, 3].all fun u => !Tryz.prog.wantsStandIn u) = true := by kernel_rfl
end Go.Proofs.YtnllmelmmcapcaaGreatDoor.topCaches
namespace Go.Proofs.YtnllmelmmcapcaaGreatDoor.topCaches
open Go
set_option linter.unusedVariables false
theorem card_looks : true = Tryz.pinned.checked.prog.looks [] := by kernel_rfl
end Go.Proofs.YtnllmelmmcapcaaGreatDoor.topCaches
namespace Go.Proofs.YtnllmelmmcapcaaGreatDoor.topCaches
open Go
set_option linter.unusedVariables false
theorem goes_none : Tryz.prog.funcs.any Func.goes = false := by kernel_rfl
theorem goes_not (f : FuncId) : Tryz.prog.goes f = false := by
  unfold Program.goes
  rw [goes_none, Bool.and_false, Bool.or_false, List.any_eq_false]
  intro g _
  cases h : Tryz.prog.funcs[g]? with
  | none => simp
  | some fn =>
    have hm := Array.any_eq_false.1 goes_none
    obtain ⟨hg, e⟩ := Array.getElem?_eq_some_iff.1 h
    have := hm g hg
    rw [e] at this
    simpa using this
theorem goes_from {P : Program} (h : ∀ f, P.goes f = false) (name : String) : P.goesFrom name = false := by
  unfold Program.goesFrom
  cases P.funcNamed name with
  | none => rfl
  | some f => exact h f
theorem goes_by {P : Program} (h : ∀ f, P.goes f = false) (c : OpenClaim) (hs : c.start = .entering) : false = c.goesBy P := by
  unfold OpenClaim.goesBy Program.goesAt
  rw [goes_from h, hs]
  rfl
theorem card_goes : false = (Rows.topCachesRow).goesBy Tryz.prog := goes_by goes_not _ rfl
end Go.Proofs.YtnllmelmmcapcaaGreatDoor.topCaches
