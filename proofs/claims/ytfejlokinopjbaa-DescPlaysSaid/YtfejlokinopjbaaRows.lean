/-
  No cell of these rows narrows 'for every input' (looked for: loops, veiled, ifaces, maps, wideKeys, modest, calm, conditions, laid).
  DERIVED. THE GIVEN ROWS OF THIS SEAT. 4 by the template 'for every input the law returns true; each argument reads behind the call as it read before'; 0 by the template 'total and deterministic' (their statements: YtfejlokinopjbaaTotals.lean).
  GIVEN WITH THE SEED: the statements are not yours to turn. If you find one false, say at which input.
  Laid BY PROGRAM, IN A SANDBOX (cutbox-rows.mjs): the forced cells as the released guide's own fill.sh prints them over the translation 23ee34343162bb1d… (all of the seat's roots in one cut). By AI agents, Wed Nov 11 2026. No macro, syntax, notation, axiom, sorry.
-/
import Derived.Test.YtfejlokinopjbaaChecked
import GoSem.Claim
import GoSem.ClaimJoined
import GoSem.ClaimMapViews
import Derived.JoinedTies
import Derived.KernelRfl
namespace Go.Proofs.Ytfejlokinopjbaa
/- THE CELL 'sum', in the pinned program and in every row, IS THE sha256 OF THE DUMP (.gsa) THAT YtfejlokinopjbaaProg.lean LOADS. Nothing in Lean hashes anything: it is a label: what it is worth is what the hold of that sum in a sandbox is worth. -/
noncomputable def Try.pinned : Pinned := { name := "ytfejlokinopjbaa", sum := "23ee34343162bb1d9fe30cff5ebc11a391b6cd1cecf67e67fe14c79a8f580b62", checked := Try.checked }
namespace Rows
def none {H : Type} : Left H := { results := [], args := [] }

/-- 'sallyportlaw03.DescSpent': WHATEVER THE INPUT: true; the input reads as it did. -/
def descSpentSpec : ChangeSpec := { name := "descSpent", fn := fun _ => fun
  | [d1, d2] => { results := [.lit (.bool true)], args := [d1, d2] }
  | _ => none }
def descSpentRow : OpenClaim := { program := "ytfejlokinopjbaa", sum := "23ee34343162bb1d9fe30cff5ebc11a391b6cd1cecf67e67fe14c79a8f580b62", func := "sallyport/sallyportlaw03.DescSpent", spec := "descSpent", apart := false }
def DescSpentSaid : Prop := descSpentRow.holds Try.pinned (OpenSpec.ofChange descSpentSpec)

/-- ITS FALSE NEIGHBOUR: 'it returns false'. Refute it at one input. -/
def descSpentWrong : ChangeSpec := { name := "descSpent", fn := fun _ => fun
  | [d1, d2] => { results := [.lit (.bool false)], args := [d1, d2] }
  | _ => none }
def DescSpentWrongFalsely : Prop := descSpentRow.holds Try.pinned (OpenSpec.ofChange descSpentWrong)

/-- 'sallyportlaw03.DescOld': WHATEVER THE INPUT: true; the input reads as it did. -/
def descOldSpec : ChangeSpec := { name := "descOld", fn := fun _ => fun
  | [d1, d2, d3] => { results := [.lit (.bool true)], args := [d1, d2, d3] }
  | _ => none }
def descOldRow : OpenClaim := { program := "ytfejlokinopjbaa", sum := "23ee34343162bb1d9fe30cff5ebc11a391b6cd1cecf67e67fe14c79a8f580b62", func := "sallyport/sallyportlaw03.DescOld", spec := "descOld", apart := false }
def DescOldSaid : Prop := descOldRow.holds Try.pinned (OpenSpec.ofChange descOldSpec)

/-- ITS FALSE NEIGHBOUR: 'it returns false'. Refute it at one input. -/
def descOldWrong : ChangeSpec := { name := "descOld", fn := fun _ => fun
  | [d1, d2, d3] => { results := [.lit (.bool false)], args := [d1, d2, d3] }
  | _ => none }
def DescOldWrongFalsely : Prop := descOldRow.holds Try.pinned (OpenSpec.ofChange descOldWrong)

/-- 'sallyportlaw03.DescPlays': WHATEVER THE INPUT: true; the input reads as it did. -/
def descPlaysSpec : ChangeSpec := { name := "descPlays", fn := fun _ => fun
  | [d1, d2] => { results := [.lit (.bool true)], args := [d1, d2] }
  | _ => none }
def descPlaysRow : OpenClaim := { program := "ytfejlokinopjbaa", sum := "23ee34343162bb1d9fe30cff5ebc11a391b6cd1cecf67e67fe14c79a8f580b62", func := "sallyport/sallyportlaw03.DescPlays", spec := "descPlays", apart := false }
def DescPlaysSaid : Prop := descPlaysRow.holds Try.pinned (OpenSpec.ofChange descPlaysSpec)

/-- ITS FALSE NEIGHBOUR: 'it returns false'. Refute it at one input. -/
def descPlaysWrong : ChangeSpec := { name := "descPlays", fn := fun _ => fun
  | [d1, d2] => { results := [.lit (.bool false)], args := [d1, d2] }
  | _ => none }
def DescPlaysWrongFalsely : Prop := descPlaysRow.holds Try.pinned (OpenSpec.ofChange descPlaysWrong)

/-- 'sallyportlaw03.DescNone': WHATEVER THE INPUT: true; the input reads as it did. -/
def descNoneSpec : ChangeSpec := { name := "descNone", fn := fun _ => fun
  | [d] => { results := [.lit (.bool true)], args := [d] }
  | _ => none }
def descNoneRow : OpenClaim := { program := "ytfejlokinopjbaa", sum := "23ee34343162bb1d9fe30cff5ebc11a391b6cd1cecf67e67fe14c79a8f580b62", func := "sallyport/sallyportlaw03.DescNone", spec := "descNone", apart := false }
def DescNoneSaid : Prop := descNoneRow.holds Try.pinned (OpenSpec.ofChange descNoneSpec)

/-- ITS FALSE NEIGHBOUR: 'it returns false'. Refute it at one input. -/
def descNoneWrong : ChangeSpec := { name := "descNone", fn := fun _ => fun
  | [d] => { results := [.lit (.bool false)], args := [d] }
  | _ => none }
def DescNoneWrongFalsely : Prop := descNoneRow.holds Try.pinned (OpenSpec.ofChange descNoneWrong)

/- THE SECOND FORM. 'bulk': how many values and letters a reading holds, each counted each time it is reached (what is shared counts as often as it is met; a slice's spare places count too). A statement '..UptoSaid' is the law's where the arguments, and the package variables that the reading takes, are together of bulk at most 1048576: NARROWER than '..Said'. Prove '..Said' where nothing that the law and all that it calls make is longer than what came in: it says more and counts as full. Else prove '..UptoSaid'. A law counts once. -/
mutual
def uptoBulk {H : Type} : DataW H → Nat
  | .lit (.string bytes) => bytes.length + 1
  | .lit _ => 1
  | .nil => 1
  | .ptr d => uptoBulk d + 1
  | .slice elems spare => uptoBulkAll elems + uptoBulkAll spare + 1
  | .agg parts => uptoBulkAll parts + 1
  | .iface _ d => uptoBulk d + 1
  | .map entries => uptoBulkEntries entries + 1
  | .held _ => 1
def uptoBulkAll {H : Type} : List (DataW H) → Nat
  | [] => 0
  | d :: r => uptoBulk d + uptoBulkAll r
def uptoBulkEntries {H : Type} : List (Lit × DataW H) → Nat
  | [] => 0
  | x :: r => uptoBulkEntry x + uptoBulkEntries r
def uptoBulkEntry {H : Type} : Lit × DataW H → Nat
  | (.string bytes, d) => bytes.length + uptoBulk d + 1
  | (_, d) => uptoBulk d + 1
 end
def uptoSmall : (H : Type) → List (DataW H) → Bool := fun _ ds => decide (uptoBulkAll ds ≤ 1048576)
def OpenSpec.upto (s : _root_.Go.ChangeSpec) : _root_.Go.OpenSpec := { _root_.Go.OpenSpec.ofChange s with cond := some uptoSmall }

/-- 'sallyportlaw03.DescSpent', WHERE WHAT IT READS IS OF BULK AT MOST 1048576: true; the input reads as it did. -/
def descSpentUptoRow : OpenClaim := { program := "ytfejlokinopjbaa", sum := "23ee34343162bb1d9fe30cff5ebc11a391b6cd1cecf67e67fe14c79a8f580b62", func := "sallyport/sallyportlaw03.DescSpent", spec := "descSpent", apart := false, narrowed := true }
def DescSpentUptoSaid : Prop := descSpentUptoRow.holds Try.pinned (OpenSpec.upto descSpentSpec)

/-- 'sallyportlaw03.DescOld', WHERE WHAT IT READS IS OF BULK AT MOST 1048576: true; the input reads as it did. -/
def descOldUptoRow : OpenClaim := { program := "ytfejlokinopjbaa", sum := "23ee34343162bb1d9fe30cff5ebc11a391b6cd1cecf67e67fe14c79a8f580b62", func := "sallyport/sallyportlaw03.DescOld", spec := "descOld", apart := false, narrowed := true }
def DescOldUptoSaid : Prop := descOldUptoRow.holds Try.pinned (OpenSpec.upto descOldSpec)

/-- 'sallyportlaw03.DescPlays', WHERE WHAT IT READS IS OF BULK AT MOST 1048576: true; the input reads as it did. -/
def descPlaysUptoRow : OpenClaim := { program := "ytfejlokinopjbaa", sum := "23ee34343162bb1d9fe30cff5ebc11a391b6cd1cecf67e67fe14c79a8f580b62", func := "sallyport/sallyportlaw03.DescPlays", spec := "descPlays", apart := false, narrowed := true }
def DescPlaysUptoSaid : Prop := descPlaysUptoRow.holds Try.pinned (OpenSpec.upto descPlaysSpec)

/-- 'sallyportlaw03.DescNone', WHERE WHAT IT READS IS OF BULK AT MOST 1048576: true; the input reads as it did. -/
def descNoneUptoRow : OpenClaim := { program := "ytfejlokinopjbaa", sum := "23ee34343162bb1d9fe30cff5ebc11a391b6cd1cecf67e67fe14c79a8f580b62", func := "sallyport/sallyportlaw03.DescNone", spec := "descNone", apart := false, narrowed := true }
def DescNoneUptoSaid : Prop := descNoneUptoRow.holds Try.pinned (OpenSpec.upto descNoneSpec)

end Rows
end Go.Proofs.Ytfejlokinopjbaa
