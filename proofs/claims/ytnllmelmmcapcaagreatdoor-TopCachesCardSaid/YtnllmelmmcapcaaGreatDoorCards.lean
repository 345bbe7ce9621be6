/-
  DERIVED. GIVEN WITH THE SEED: THE CARDS: each row of YtnllmelmmcapcaaGreatDoorRows.lean that lists a variable, with what it lists TIED to the program's text (the seventh form; the later family's looks); each row that meets fmt, with fmt's text TOLD by the authors' own Lean function (tested against real Go, not proved from fmt's source: count such statements apart). THE CARD IS WHAT COUNTS. Prove the row's statement (the work); the ties are given (YtnllmelmmcapcaaGreatDoorTie.lean); close each card by the builder's one call (the guide's Derived/Test/ToyasCard.lean, 'card_holds'). Laid BY PROGRAM, IN A SANDBOX (cutbox-door.mjs). By AI agents, Wed Nov 11 2026. No macro, syntax, notation, axiom, sorry.
-/
import Derived.Test.YtnllmelmmcapcaaGreatDoorRows
import GoSem.ClaimSeven
namespace Go.Proofs.YtnllmelmmcapcaaGreatDoor
namespace Rows

/-- THE TIED CARD OF 'sallyporttop.TopCaches'. -/
def topCachesCard : Claim7 := { stood := { row := topCachesRow, standIns := [], harness := (true, "b76cb15db263b812b623ee6c1a063d7cc359f1c0f239aafc2aa6bc782a52ab2f"), looks := true }, kinds := [], alts := [], laidByText := true, laidKinds := [.pinned, .data, .pinned, .data, .data, .data, .sentinel, .sentinel, .sentinel, .data], laidTests := true, laidLooks := .later }
def TopCachesCardSaid : Prop := Claim7.holds Tryz.pinned (.plain (OpenSpec.ofChange topCachesSpec)) topCachesCard

/-- THE TIED CARD OF 'sallyporttop.TopRefuses'. -/
def topRefusesCard : Claim7 := { stood := { row := topRefusesRow, standIns := [], harness := (true, "b76cb15db263b812b623ee6c1a063d7cc359f1c0f239aafc2aa6bc782a52ab2f"), looks := true }, kinds := [], alts := [], laidByText := true, laidKinds := [.pinned, .data, .pinned, .data, .data, .data, .sentinel, .sentinel, .sentinel, .data], laidTests := true, laidLooks := .later }
def TopRefusesCardSaid : Prop := Claim7.holds Tryz.pinned (.plain (OpenSpec.ofChange topRefusesSpec)) topRefusesCard

/-- THE TIED CARD OF 'sallyporttop.TopWritten'. -/
def topWrittenCard : Claim7 := { stood := { row := topWrittenRow, standIns := [], harness := (true, "b76cb15db263b812b623ee6c1a063d7cc359f1c0f239aafc2aa6bc782a52ab2f"), looks := true }, kinds := [], alts := [], laidByText := true, laidKinds := [.pinned, .data, .pinned, .data, .data, .data, .sentinel, .sentinel, .sentinel, .data], laidTests := true, laidLooks := .later }
def TopWrittenCardSaid : Prop := Claim7.holds Tryz.pinned (.plain (OpenSpec.ofChange topWrittenSpec)) topWrittenCard

/-- THE SECOND FORM's CARD OF 'sallyporttop.TopCaches'. -/
def topCachesUptoCard : Claim7 := { stood := { row := topCachesUptoRow, standIns := [], harness := (true, "b76cb15db263b812b623ee6c1a063d7cc359f1c0f239aafc2aa6bc782a52ab2f"), looks := true }, kinds := [], alts := [], laidByText := true, laidKinds := [.pinned, .data, .pinned, .data, .data, .data, .sentinel, .sentinel, .sentinel, .data], laidTests := true, laidLooks := .later }
def TopCachesUptoCardSaid : Prop := Claim7.holds Tryz.pinned (.plain (OpenSpec.upto topCachesSpec)) topCachesUptoCard

/-- THE SECOND FORM's CARD OF 'sallyporttop.TopRefuses'. -/
def topRefusesUptoCard : Claim7 := { stood := { row := topRefusesUptoRow, standIns := [], harness := (true, "b76cb15db263b812b623ee6c1a063d7cc359f1c0f239aafc2aa6bc782a52ab2f"), looks := true }, kinds := [], alts := [], laidByText := true, laidKinds := [.pinned, .data, .pinned, .data, .data, .data, .sentinel, .sentinel, .sentinel, .data], laidTests := true, laidLooks := .later }
def TopRefusesUptoCardSaid : Prop := Claim7.holds Tryz.pinned (.plain (OpenSpec.upto topRefusesSpec)) topRefusesUptoCard

/-- THE SECOND FORM's CARD OF 'sallyporttop.TopWritten'. -/
def topWrittenUptoCard : Claim7 := { stood := { row := topWrittenUptoRow, standIns := [], harness := (true, "b76cb15db263b812b623ee6c1a063d7cc359f1c0f239aafc2aa6bc782a52ab2f"), looks := true }, kinds := [], alts := [], laidByText := true, laidKinds := [.pinned, .data, .pinned, .data, .data, .data, .sentinel, .sentinel, .sentinel, .data], laidTests := true, laidLooks := .later }
def TopWrittenUptoCardSaid : Prop := Claim7.holds Tryz.pinned (.plain (OpenSpec.upto topWrittenSpec)) topWrittenUptoCard
end Rows
end Go.Proofs.YtnllmelmmcapcaaGreatDoor
