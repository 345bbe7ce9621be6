/-
  No cell of these rows narrows 'for every input' (looked for: loops, veiled, ifaces, maps, wideKeys, modest, calm, conditions, laid).
  DERIVED. THE GIVEN ROWS OF THIS SEAT. 11 by the template 'for every input the law returns true; each argument reads behind the call as it read before'; 0 by the template 'total and deterministic' (their statements: YtnbhgfnjnccakaaTotals.lean).
  GIVEN WITH THE SEED: the statements are not yours to turn. If you find one false, say at which input.
  Laid BY PROGRAM, IN A SANDBOX (cutbox-rows.mjs): the forced cells as the released guide's own fill.sh prints them over the translation 5c17f86f6d7ed812… (all of the seat's roots in one cut). By AI agents, Wed Nov 11 2026. No macro, syntax, notation, axiom, sorry.
-/
import Derived.Test.YtnbhgfnjnccakaaChecked
import GoSem.Claim
import GoSem.ClaimJoined
import GoSem.ClaimMapViews
import Derived.JoinedTies
import Derived.KernelRfl
namespace Go.Proofs.Ytnbhgfnjnccakaa
/- THE CELL 'sum', in the pinned program and in every row, IS THE sha256 OF THE DUMP (.gsa) THAT YtnbhgfnjnccakaaProg.lean LOADS. Nothing in Lean hashes anything: it is a label: what it is worth is what the hold of that sum in a sandbox is worth. -/
noncomputable def Try.pinned : Pinned := { name := "ytnbhgfnjnccakaa", sum := "5c17f86f6d7ed812bb5a84cd227ef9ef4215562c3e26c139bd59462c9e5494bd", checked := Try.checked }
namespace Rows
def none {H : Type} : Left H := { results := [], args := [] }

/-- 'sallyportlaw15.PortOrder': WHATEVER THE INPUT: true; the input reads as it did. -/
def portOrderSpec : ChangeSpec := { name := "portOrder", fn := fun _ => fun
  | [d1, d2, d3, d4] => { results := [.lit (.bool true)], args := [d1, d2, d3, d4] }
  | _ => none }
def portOrderRow : OpenClaim := { program := "ytnbhgfnjnccakaa", sum := "5c17f86f6d7ed812bb5a84cd227ef9ef4215562c3e26c139bd59462c9e5494bd", func := "sallyport/sallyportlaw15.PortOrder", spec := "portOrder", apart := false }
def PortOrderSaid : Prop := portOrderRow.holds Try.pinned (OpenSpec.ofChange portOrderSpec)

/-- ITS FALSE NEIGHBOUR: 'it returns false'. Refute it at one input. -/
def portOrderWrong : ChangeSpec := { name := "portOrder", fn := fun _ => fun
  | [d1, d2, d3, d4] => { results := [.lit (.bool false)], args := [d1, d2, d3, d4] }
  | _ => none }
def PortOrderWrongFalsely : Prop := portOrderRow.holds Try.pinned (OpenSpec.ofChange portOrderWrong)

/-- 'sallyportlaw15.PortRoom': WHATEVER THE INPUT: true; the input reads as it did. -/
def portRoomSpec : ChangeSpec := { name := "portRoom", fn := fun _ => fun
  | [d1, d2, d3] => { results := [.lit (.bool true)], args := [d1, d2, d3] }
  | _ => none }
def portRoomRow : OpenClaim := { program := "ytnbhgfnjnccakaa", sum := "5c17f86f6d7ed812bb5a84cd227ef9ef4215562c3e26c139bd59462c9e5494bd", func := "sallyport/sallyportlaw15.PortRoom", spec := "portRoom", apart := false }
def PortRoomSaid : Prop := portRoomRow.holds Try.pinned (OpenSpec.ofChange portRoomSpec)

/-- ITS FALSE NEIGHBOUR: 'it returns false'. Refute it at one input. -/
def portRoomWrong : ChangeSpec := { name := "portRoom", fn := fun _ => fun
  | [d1, d2, d3] => { results := [.lit (.bool false)], args := [d1, d2, d3] }
  | _ => none }
def PortRoomWrongFalsely : Prop := portRoomRow.holds Try.pinned (OpenSpec.ofChange portRoomWrong)

/-- 'sallyportlaw15.PortIdle': WHATEVER THE INPUT: true; the input reads as it did. -/
def portIdleSpec : ChangeSpec := { name := "portIdle", fn := fun _ => fun
  | [d1, d2, d3] => { results := [.lit (.bool true)], args := [d1, d2, d3] }
  | _ => none }
def portIdleRow : OpenClaim := { program := "ytnbhgfnjnccakaa", sum := "5c17f86f6d7ed812bb5a84cd227ef9ef4215562c3e26c139bd59462c9e5494bd", func := "sallyport/sallyportlaw15.PortIdle", spec := "portIdle", apart := false }
def PortIdleSaid : Prop := portIdleRow.holds Try.pinned (OpenSpec.ofChange portIdleSpec)

/-- ITS FALSE NEIGHBOUR: 'it returns false'. Refute it at one input. -/
def portIdleWrong : ChangeSpec := { name := "portIdle", fn := fun _ => fun
  | [d1, d2, d3] => { results := [.lit (.bool false)], args := [d1, d2, d3] }
  | _ => none }
def PortIdleWrongFalsely : Prop := portIdleRow.holds Try.pinned (OpenSpec.ofChange portIdleWrong)

/-- 'sallyportlaw15.PortApart': WHATEVER THE INPUT: true; the input reads as it did. -/
def portApartSpec : ChangeSpec := { name := "portApart", fn := fun _ => fun
  | [d1, d2] => { results := [.lit (.bool true)], args := [d1, d2] }
  | _ => none }
def portApartRow : OpenClaim := { program := "ytnbhgfnjnccakaa", sum := "5c17f86f6d7ed812bb5a84cd227ef9ef4215562c3e26c139bd59462c9e5494bd", func := "sallyport/sallyportlaw15.PortApart", spec := "portApart", apart := false }
def PortApartSaid : Prop := portApartRow.holds Try.pinned (OpenSpec.ofChange portApartSpec)

/-- ITS FALSE NEIGHBOUR: 'it returns false'. Refute it at one input. -/
def portApartWrong : ChangeSpec := { name := "portApart", fn := fun _ => fun
  | [d1, d2] => { results := [.lit (.bool false)], args := [d1, d2] }
  | _ => none }
def PortApartWrongFalsely : Prop := portApartRow.holds Try.pinned (OpenSpec.ofChange portApartWrong)

/-- 'sallyportlaw19.RelayEnds': WHATEVER THE INPUT: true; the input reads as it did. -/
def relayEndsSpec : ChangeSpec := { name := "relayEnds", fn := fun _ => fun
  | [d1, d2, d3, d4] => { results := [.lit (.bool true)], args := [d1, d2, d3, d4] }
  | _ => none }
def relayEndsRow : OpenClaim := { program := "ytnbhgfnjnccakaa", sum := "5c17f86f6d7ed812bb5a84cd227ef9ef4215562c3e26c139bd59462c9e5494bd", func := "sallyport/sallyportlaw19.RelayEnds", spec := "relayEnds", unfollowed := true, recurses := true, apart := false }
def RelayEndsSaid : Prop := relayEndsRow.holds Try.pinned (OpenSpec.ofChange relayEndsSpec)

/-- ITS FALSE NEIGHBOUR: 'it returns false'. Refute it at one input. -/
def relayEndsWrong : ChangeSpec := { name := "relayEnds", fn := fun _ => fun
  | [d1, d2, d3, d4] => { results := [.lit (.bool false)], args := [d1, d2, d3, d4] }
  | _ => none }
def RelayEndsWrongFalsely : Prop := relayEndsRow.holds Try.pinned (OpenSpec.ofChange relayEndsWrong)

/-- 'sallyportlaw19.RelayResets': WHATEVER THE INPUT: true; the input reads as it did. -/
def relayResetsSpec : ChangeSpec := { name := "relayResets", fn := fun _ => fun
  | [d1, d2] => { results := [.lit (.bool true)], args := [d1, d2] }
  | _ => none }
def relayResetsRow : OpenClaim := { program := "ytnbhgfnjnccakaa", sum := "5c17f86f6d7ed812bb5a84cd227ef9ef4215562c3e26c139bd59462c9e5494bd", func := "sallyport/sallyportlaw19.RelayResets", spec := "relayResets", unfollowed := true, recurses := true, apart := false }
def RelayResetsSaid : Prop := relayResetsRow.holds Try.pinned (OpenSpec.ofChange relayResetsSpec)

/-- ITS FALSE NEIGHBOUR: 'it returns false'. Refute it at one input. -/
def relayResetsWrong : ChangeSpec := { name := "relayResets", fn := fun _ => fun
  | [d1, d2] => { results := [.lit (.bool false)], args := [d1, d2] }
  | _ => none }
def RelayResetsWrongFalsely : Prop := relayResetsRow.holds Try.pinned (OpenSpec.ofChange relayResetsWrong)

/-- 'sallyportlaw19.RelayPlays': WHATEVER THE INPUT: true; the input reads as it did. -/
def relayPlaysSpec : ChangeSpec := { name := "relayPlays", fn := fun _ => fun
  | [d1, d2] => { results := [.lit (.bool true)], args := [d1, d2] }
  | _ => none }
def relayPlaysRow : OpenClaim := { program := "ytnbhgfnjnccakaa", sum := "5c17f86f6d7ed812bb5a84cd227ef9ef4215562c3e26c139bd59462c9e5494bd", func := "sallyport/sallyportlaw19.RelayPlays", spec := "relayPlays", unfollowed := true, recurses := true, apart := false }
def RelayPlaysSaid : Prop := relayPlaysRow.holds Try.pinned (OpenSpec.ofChange relayPlaysSpec)

/-- ITS FALSE NEIGHBOUR: 'it returns false'. Refute it at one input. -/
def relayPlaysWrong : ChangeSpec := { name := "relayPlays", fn := fun _ => fun
  | [d1, d2] => { results := [.lit (.bool false)], args := [d1, d2] }
  | _ => none }
def RelayPlaysWrongFalsely : Prop := relayPlaysRow.holds Try.pinned (OpenSpec.ofChange relayPlaysWrong)

/-- 'sallyportlaw19.RelayOrder': WHATEVER THE INPUT: true; the input reads as it did. -/
def relayOrderSpec : ChangeSpec := { name := "relayOrder", fn := fun _ => fun
  | [d1, d2] => { results := [.lit (.bool true)], args := [d1, d2] }
  | _ => none }
def relayOrderRow : OpenClaim := { program := "ytnbhgfnjnccakaa", sum := "5c17f86f6d7ed812bb5a84cd227ef9ef4215562c3e26c139bd59462c9e5494bd", func := "sallyport/sallyportlaw19.RelayOrder", spec := "relayOrder", unfollowed := true, recurses := true, apart := false }
def RelayOrderSaid : Prop := relayOrderRow.holds Try.pinned (OpenSpec.ofChange relayOrderSpec)

/-- ITS FALSE NEIGHBOUR: 'it returns false'. Refute it at one input. -/
def relayOrderWrong : ChangeSpec := { name := "relayOrder", fn := fun _ => fun
  | [d1, d2] => { results := [.lit (.bool false)], args := [d1, d2] }
  | _ => none }
def RelayOrderWrongFalsely : Prop := relayOrderRow.holds Try.pinned (OpenSpec.ofChange relayOrderWrong)

/-- 'sallyportlaw19.RelayGets': WHATEVER THE INPUT: true; the input reads as it did. -/
def relayGetsSpec : ChangeSpec := { name := "relayGets", fn := fun _ => fun
  | [d1, d2] => { results := [.lit (.bool true)], args := [d1, d2] }
  | _ => none }
def relayGetsRow : OpenClaim := { program := "ytnbhgfnjnccakaa", sum := "5c17f86f6d7ed812bb5a84cd227ef9ef4215562c3e26c139bd59462c9e5494bd", func := "sallyport/sallyportlaw19.RelayGets", spec := "relayGets", unfollowed := true, recurses := true, apart := false }
def RelayGetsSaid : Prop := relayGetsRow.holds Try.pinned (OpenSpec.ofChange relayGetsSpec)

/-- ITS FALSE NEIGHBOUR: 'it returns false'. Refute it at one input. -/
def relayGetsWrong : ChangeSpec := { name := "relayGets", fn := fun _ => fun
  | [d1, d2] => { results := [.lit (.bool false)], args := [d1, d2] }
  | _ => none }
def RelayGetsWrongFalsely : Prop := relayGetsRow.holds Try.pinned (OpenSpec.ofChange relayGetsWrong)

/-- 'sallyportlaw15.PortPlays': WHATEVER THE INPUT: true; the input reads as it did. -/
def portPlaysSpec : ChangeSpec := { name := "portPlays", fn := fun _ => fun
  | [d1, d2, d3, d4] => { results := [.lit (.bool true)], args := [d1, d2, d3, d4] }
  | _ => none }
def portPlaysRow : OpenClaim := { program := "ytnbhgfnjnccakaa", sum := "5c17f86f6d7ed812bb5a84cd227ef9ef4215562c3e26c139bd59462c9e5494bd", func := "sallyport/sallyportlaw15.PortPlays", spec := "portPlays", apart := false }
def PortPlaysSaid : Prop := portPlaysRow.holds Try.pinned (OpenSpec.ofChange portPlaysSpec)

/-- ITS FALSE NEIGHBOUR: 'it returns false'. Refute it at one input. -/
def portPlaysWrong : ChangeSpec := { name := "portPlays", fn := fun _ => fun
  | [d1, d2, d3, d4] => { results := [.lit (.bool false)], args := [d1, d2, d3, d4] }
  | _ => none }
def PortPlaysWrongFalsely : Prop := portPlaysRow.holds Try.pinned (OpenSpec.ofChange portPlaysWrong)

/-- 'sallyportlaw15.PortNone': WHATEVER THE INPUT: true; the input reads as it did. -/
def portNoneSpec : ChangeSpec := { name := "portNone", fn := fun _ => fun
  | [d1, d2] => { results := [.lit (.bool true)], args := [d1, d2] }
  | _ => none }
def portNoneRow : OpenClaim := { program := "ytnbhgfnjnccakaa", sum := "5c17f86f6d7ed812bb5a84cd227ef9ef4215562c3e26c139bd59462c9e5494bd", func := "sallyport/sallyportlaw15.PortNone", spec := "portNone", apart := false }
def PortNoneSaid : Prop := portNoneRow.holds Try.pinned (OpenSpec.ofChange portNoneSpec)

/-- ITS FALSE NEIGHBOUR: 'it returns false'. Refute it at one input. -/
def portNoneWrong : ChangeSpec := { name := "portNone", fn := fun _ => fun
  | [d1, d2] => { results := [.lit (.bool false)], args := [d1, d2] }
  | _ => none }
def PortNoneWrongFalsely : Prop := portNoneRow.holds Try.pinned (OpenSpec.ofChange portNoneWrong)

/- THE SECOND FORM. 'bulk': how many values and letters a reading holds, each counted each time it is reached (what is shared counts as often as it is met; a slice's spare places count too). A statement '..UptoSaid' is the law's where the arguments, and the package variables that the reading takes, are together of bulk at most 1048576: NARROWER than '..Said'. Prove '..Said' where nothing that the law and all that it calls make is longer than what came in: it says more and counts as full. Else prove '..UptoSaid'. A law counts once. -/
mutual
def uptoBulk {H : Type} : DataW H → Nat
  | .lit (.string bytes) => bytes.length + 1
  | .lit _ => 1
  | .nil => 1
  | .ptr d => uptoBulk d + 1
  | .slice elems spare => uptoBulkAll elems + uptoBulkAll spare + 1
  | .agg parts => uptoBulkAll parts + 1
  | .iface _ d => uptoBulk d + 1
  | .map entries => uptoBulkEntries entries + 1
  | .held _ => 1
def uptoBulkAll {H : Type} : List (DataW H) → Nat
  | [] => 0
  | d :: r => uptoBulk d + uptoBulkAll r
def uptoBulkEntries {H : Type} : List (Lit × DataW H) → Nat
  | [] => 0
  | x :: r => uptoBulkEntry x + uptoBulkEntries r
def uptoBulkEntry {H : Type} : Lit × DataW H → Nat
  | (.string bytes, d) => bytes.length + uptoBulk d + 1
  | (_, d) => uptoBulk d + 1
 end
def uptoSmall : (H : Type) → List (DataW H) → Bool := fun _ ds => decide (uptoBulkAll ds ≤ 1048576)
def OpenSpec.upto (s : _root_.Go.ChangeSpec) : _root_.Go.OpenSpec := { _root_.Go.OpenSpec.ofChange s with cond := some uptoSmall }

/-- 'sallyportlaw15.PortOrder', WHERE WHAT IT READS IS OF BULK AT MOST 1048576: true; the input reads as it did. -/
def portOrderUptoRow : OpenClaim := { program := "ytnbhgfnjnccakaa", sum := "5c17f86f6d7ed812bb5a84cd227ef9ef4215562c3e26c139bd59462c9e5494bd", func := "sallyport/sallyportlaw15.PortOrder", spec := "portOrder", apart := false, narrowed := true }
def PortOrderUptoSaid : Prop := portOrderUptoRow.holds Try.pinned (OpenSpec.upto portOrderSpec)

/-- 'sallyportlaw15.PortRoom', WHERE WHAT IT READS IS OF BULK AT MOST 1048576: true; the input reads as it did. -/
def portRoomUptoRow : OpenClaim := { program := "ytnbhgfnjnccakaa", sum := "5c17f86f6d7ed812bb5a84cd227ef9ef4215562c3e26c139bd59462c9e5494bd", func := "sallyport/sallyportlaw15.PortRoom", spec := "portRoom", apart := false, narrowed := true }
def PortRoomUptoSaid : Prop := portRoomUptoRow.holds Try.pinned (OpenSpec.upto portRoomSpec)

/-- 'sallyportlaw15.PortIdle', WHERE WHAT IT READS IS OF BULK AT MOST 1048576: true; the input reads as it did. -/
def portIdleUptoRow : OpenClaim := { program := "ytnbhgfnjnccakaa", sum := "5c17f86f6d7ed812bb5a84cd227ef9ef4215562c3e26c139bd59462c9e5494bd", func := "sallyport/sallyportlaw15.PortIdle", spec := "portIdle", apart := false, narrowed := true }
def PortIdleUptoSaid : Prop := portIdleUptoRow.holds Try.pinned (OpenSpec.upto portIdleSpec)

/-- 'sallyportlaw15.PortApart', WHERE WHAT IT READS IS OF BULK AT MOST 1048576: true; the input reads as it did. -/
def portApartUptoRow : OpenClaim := { program := "ytnbhgfnjnccakaa", sum := "5c17f86f6d7ed812bb5a84cd227ef9ef4215562c3e26c139bd59462c9e5494bd", func := "sallyport/sallyportlaw15.PortApart", spec := "portApart", apart := false, narrowed := true }
def PortApartUptoSaid : Prop := portApartUptoRow.holds Try.pinned (OpenSpec.upto portApartSpec)

/-- 'sallyportlaw19.RelayEnds', WHERE WHAT IT READS IS OF BULK AT MOST 1048576: true; the input reads as it did. -/
def relayEndsUptoRow : OpenClaim := { program := "ytnbhgfnjnccakaa", sum := "5c17f86f6d7ed812bb5a84cd227ef9ef4215562c3e26c139bd59462c9e5494bd", func := "sallyport/sallyportlaw19.RelayEnds", spec := "relayEnds", unfollowed := true, recurses := true, apart := false, narrowed := true }
def RelayEndsUptoSaid : Prop := relayEndsUptoRow.holds Try.pinned (OpenSpec.upto relayEndsSpec)

/-- 'sallyportlaw19.RelayResets', WHERE WHAT IT READS IS OF BULK AT MOST 1048576: true; the input reads as it did. -/
def relayResetsUptoRow : OpenClaim := { program := "ytnbhgfnjnccakaa", sum := "5c17f86f6d7ed812bb5a84cd227ef9ef4215562c3e26c139bd59462c9e5494bd", func := "sallyport/sallyportlaw19.RelayResets", spec := "relayResets", unfollowed := true, recurses := true, apart := false, narrowed := true }
def RelayResetsUptoSaid : Prop := relayResetsUptoRow.holds Try.pinned (OpenSpec.upto relayResetsSpec)

/-- 'sallyportlaw19.RelayPlays', WHERE WHAT IT READS IS OF BULK AT MOST 1048576: true; the input reads as it did. -/
def relayPlaysUptoRow : OpenClaim := { program := "ytnbhgfnjnccakaa", sum := "5c17f86f6d7ed812bb5a84cd227ef9ef4215562c3e26c139bd59462c9e5494bd", func := "sallyport/sallyportlaw19.RelayPlays", spec := "relayPlays", unfollowed := true, recurses := true, apart := false, narrowed := true }
def RelayPlaysUptoSaid : Prop := relayPlaysUptoRow.holds Try.pinned (OpenSpec.upto relayPlaysSpec)

/-- 'sallyportlaw19.RelayOrder', WHERE WHAT IT READS IS OF BULK AT MOST 1048576: true; the input reads as it did. -/
def relayOrderUptoRow : OpenClaim := { program := "ytnbhgfnjnccakaa", sum := "5c17f86f6d7ed812bb5a84cd227ef9ef4215562c3e26c139bd59462c9e5494bd", func := "sallyport/sallyportlaw19.RelayOrder", spec := "relayOrder", unfollowed := true, recurses := true, apart := false, narrowed := true }
def RelayOrderUptoSaid : Prop := relayOrderUptoRow.holds Try.pinned (OpenSpec.upto relayOrderSpec)

/-- 'sallyportlaw19.RelayGets', WHERE WHAT IT READS IS OF BULK AT MOST 1048576: true; the input reads as it did. -/
def relayGetsUptoRow : OpenClaim := { program := "ytnbhgfnjnccakaa", sum := "5c17f86f6d7ed812bb5a84cd227ef9ef4215562c3e26c139bd59462c9e5494bd", func := "sallyport/sallyportlaw19.RelayGets", spec := "relayGets", unfollowed := true, recurses := true, apart := false, narrowed := true }
def RelayGetsUptoSaid : Prop := relayGetsUptoRow.holds Try.pinned (OpenSpec.upto relayGetsSpec)

/-- 'sallyportlaw15.PortPlays', WHERE WHAT IT READS IS OF BULK AT MOST 1048576: true; the input reads as it did. -/
def portPlaysUptoRow : OpenClaim := { program := "ytnbhgfnjnccakaa", sum := "5c17f86f6d7ed812bb5a84cd227ef9ef4215562c3e26c139bd59462c9e5494bd", func := "sallyport/sallyportlaw15.PortPlays", spec := "portPlays", apart := false, narrowed := true }
def PortPlaysUptoSaid : Prop := portPlaysUptoRow.holds Try.pinned (OpenSpec.upto portPlaysSpec)

/-- 'sallyportlaw15.PortNone', WHERE WHAT IT READS IS OF BULK AT MOST 1048576: true; the input reads as it did. -/
def portNoneUptoRow : OpenClaim := { program := "ytnbhgfnjnccakaa", sum := "5c17f86f6d7ed812bb5a84cd227ef9ef4215562c3e26c139bd59462c9e5494bd", func := "sallyport/sallyportlaw15.PortNone", spec := "portNone", apart := false, narrowed := true }
def PortNoneUptoSaid : Prop := portNoneUptoRow.holds Try.pinned (OpenSpec.upto portNoneSpec)

end Rows
end Go.Proofs.Ytnbhgfnjnccakaa
