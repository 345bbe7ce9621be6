/- TopCaches: the pieces that are asked of the kernel, each as one word. -/
import Derived.Test.YtnllmelmmcapcaaGreatDoorCaD
namespace Go.Proofs.YtnllmelmmcapcaaGreatDoor.Ev
open Go Go.RowKit
set_option linter.unusedVariables false

abbrev TmL := List (Nat × AV)
abbrev HpL := List (Nat × Blk)
abbrev Out3 := List (Option AV) × List (Option AV) × List (Option Blk) × Nat

/-- The answer's bytes come, the server ends, the first tick of the round. -/
noncomputable def evV1 (kb : Nat) (tm1 : TmL) (S1 : HpL) (n1 : Nat) (tmC tmR2 : TmL) (S2 : HpL) (n2 : Nat) : Option Unit :=
  evN 99 (nthC 12 cT) (mkTr tm1) (mkTr S1) n1 (nrm fun tm H n => evN 99 (nthC 13 cT) tm H n (nrm fun tm H n => tIn kb tm H n fun tm H n => chkM tmC tm
    (rIn kb 3 H n fun tmR H n => evN 25 rL2 tmR H n (nrm fun tmR H n => chkM tmR2 tmR (chkH S2 H (chkN n n2 (some ())))))))
/-- The rest of the round, and what comes before the second client's first tick. -/
noncomputable def evU1 (kb bx : Nat) (tmR2 : TmL) (S2 : HpL) (n2 : Nat) (tmC tmD tmR3 : TmL) (S3 : HpL) : Option Out3 :=
  rOut (mkTr tmR2) (mkTr S2) n2 fun v H n => tOut (mkTr tmC) v H n fun tm H n => sIn bx tm H n fun tm H n => qIn kb bx 1 H n fun tmq H n => rIn kb 2 H n fun tmR H n =>
    some (outT tmD tm, outT tmR3 tmR, outT S3 H, n)
/-- The second client's first tick. -/
noncomputable def evV2 (tmR3 : TmL) (S3 : HpL) (n3 : Nat) (tmR4 : TmL) (S4 : HpL) (n4 : Nat) : Option Unit :=
  evN 25 rL2 (mkTr tmR3) (mkTr S3) n3 (nrm fun tmR H n => chkM tmR4 tmR (chkH S4 H (chkN n n4 (some ()))))
/-- The rest of its round, and the other tenant's client. -/
noncomputable def evU2 (tmR4 : TmL) (S4 : HpL) (n4 : Nat) (tmD tmE : TmL) (S5 : HpL) : Option Out3 :=
  rOut (mkTr tmR4) (mkTr S4) n4 fun v H n => qOut .lf v H n fun v H n => sOut (mkTr tmD) v H n fun tm H n => some (outT tmE tm, [], outT S5 H, n)
/-- What came is compared. -/
noncomputable def evF (tmE : TmL) (S5 : HpL) (n5 : Nat) : Option Unit :=
  evN 99 (nthC 16 cT) (mkTr tmE) (mkTr S5) n5 (nrm fun tm H n => tget tm 4 fun o => match o with | some v => chkV v (.bool true) (some ()) | none => none)
/-- Up to where the answer's bytes come; the answer itself is made in the hole. -/
noncomputable def evA (tmH tmI : TmL) (nh : Nat) (tm1 : TmL) (S1 : HpL) (n1 : Nat) : Option Unit :=
  evN 99 (nthC 3 cT) (mkTr [(0, .any 1), (1, .any 2)]) .lf 0 (nrm fun tm H n => evN 99 (nthC 4 cT) tm H n (nrm fun tm H n => evN 99 (nthC 5 cT) tm H n (nrm fun tm H n =>
    chkM tmH tm (chkN n nh (evN 99 (nthC 7 cT) (mkTr tmI) H (nh + 20) (nrm fun tm H n => evN 99 (nthC 8 cT) tm H n (nrm fun tm H n => evN 99 (nthC 9 cT) tm H n (nrm fun tm H n =>
      evN 99 (nthC 10 cT) tm H n (nrm fun tm H n => evN 99 (nthC 11 cT) tm H n (nrm fun tm H n => chkM tm1 tm (chkH S1 H (chkN n n1 (some ())))))))))))))
/-- The answer is made. -/
noncomputable def evB (L : Nat) (g : Bool) (nh : Nat) : Option Unit :=
  evN 99 (nthC 6 cT) (mkTr [(0, .str ((List.range L).map (· + 261))), (1, .age g)]) .lf nh (nrm fun tm H n => tget tm 8 fun o => match o with | some v => chkV v (.str (allC L g)) (cond (Nat.ble n (nh + 20)) (some ()) none) | none => none)
end Go.Proofs.YtnllmelmmcapcaaGreatDoor.Ev
