/- TopCaches: what the evaluator is asked. -/
import Derived.Test.YtnllmelmmcapcaaGreatDoorEvZz
import Derived.Test.YtnllmelmmcapcaaGreatDoorProg
namespace Go.Proofs.YtnllmelmmcapcaaGreatDoor.Ev
open Go Go.RowKit
set_option linter.unusedVariables false

/-- What is known of the program's variables: the powers of ten, the table of the lowest bit; that MaxLen holds some number. -/
noncomputable def pows : List AV := [.int .u64 1, .int .u64 10, .int .u64 100, .int .u64 1000, .int .u64 10000, .int .u64 100000, .int .u64 1000000, .int .u64 10000000, .int .u64 100000000, .int .u64 1000000000, .int .u64 10000000000, .int .u64 100000000000, .int .u64 1000000000000, .int .u64 10000000000000, .int .u64 100000000000000, .int .u64 1000000000000000, .int .u64 10000000000000000, .int .u64 100000000000000000, .int .u64 1000000000000000000, .int .u64 10000000000000000000]
noncomputable def lows : List AV := [.int .u8 0, .int .u8 1, .int .u8 56, .int .u8 2, .int .u8 57, .int .u8 49, .int .u8 28, .int .u8 3, .int .u8 61, .int .u8 58, .int .u8 42, .int .u8 50, .int .u8 38, .int .u8 29, .int .u8 17, .int .u8 4, .int .u8 62, .int .u8 47, .int .u8 59, .int .u8 36, .int .u8 45, .int .u8 43, .int .u8 51, .int .u8 22, .int .u8 53, .int .u8 39, .int .u8 33, .int .u8 30, .int .u8 24, .int .u8 18, .int .u8 12, .int .u8 5, .int .u8 63, .int .u8 55, .int .u8 48, .int .u8 27, .int .u8 60, .int .u8 41, .int .u8 37, .int .u8 16, .int .u8 46, .int .u8 35, .int .u8 44, .int .u8 21, .int .u8 52, .int .u8 32, .int .u8 23, .int .u8 11, .int .u8 54, .int .u8 26, .int .u8 40, .int .u8 15, .int .u8 34, .int .u8 20, .int .u8 31, .int .u8 10, .int .u8 25, .int .u8 14, .int .u8 19, .int .u8 9, .int .u8 13, .int .u8 8, .int .u8 7, .int .u8 6]
noncomputable def GG : Tr (List AV) := .nd (.nd .lf (some pows) (.nd (.nd .lf (some lows) .lf) none .lf)) none (.nd (.nd .lf (some []) .lf) none .lf)

/-- The digits of a number of two digits, of one of three. -/
def digs (g : Bool) : List Nat := cond g [258, 259, 260] [256, 257]
noncomputable def askA : List AV := [.str [71, 69, 84], .int .u8 10, .int .u8 0, .int .u8 0, .int .u8 1, .str [], .int .i64 80, .str [47, 120], .nilsl]
noncomputable def sentA : List AV := [.int .u8 71, .int .u8 69, .int .u8 84, .int .u8 32, .int .u8 47, .int .u8 120, .int .u8 32, .int .u8 72, .int .u8 84, .int .u8 84, .int .u8 80, .int .u8 47, .int .u8 49, .int .u8 46, .int .u8 49, .int .u8 13, .int .u8 10, .int .u8 72, .int .u8 111, .int .u8 115, .int .u8 116, .int .u8 58, .int .u8 32, .int .u8 49, .int .u8 48, .int .u8 46, .int .u8 48, .int .u8 46, .int .u8 48, .int .u8 46, .int .u8 49, .int .u8 13, .int .u8 10, .int .u8 67, .int .u8 111, .int .u8 110, .int .u8 110, .int .u8 101, .int .u8 99, .int .u8 116, .int .u8 105, .int .u8 111, .int .u8 110, .int .u8 58, .int .u8 32, .int .u8 99, .int .u8 108, .int .u8 111, .int .u8 115, .int .u8 101, .int .u8 13, .int .u8 10, .int .u8 13, .int .u8 10]

/-- The calls that are known. -/
noncomputable def orcT (f : FuncId) (args : List AV) (H : Heap) (n : Nat) : Option (AV × Heap × Nat) :=
  match args with
  | [.age g] => cond (Nat.beq f 9) (some (.str (digs g), H, n)) none
  | [.str l] => cond (Nat.beq f 337) (cond (leq l (digs false)) (some (.tup [.age false, .bool true], H, n)) (cond (leq l (digs true)) (some (.tup [.age true, .bool true], H, n)) none)) none
  | [.ptr b o, .symb j] => cond (Nat.beq f 143 && Nat.blt j 5) (readK H b (o + 48) 10 fun l => cond (eqWs l [.bool false, .bool false, .bool false, .bool false, .bool false, .bool false, .bool false, .bool false, .bool false, .bool false]) (some (.bool false, H, n)) none) none
  | [.agg l] => cond (Nat.beq f 436) (cond (eqWs l askA) (newK H n 5 1 true sentA fun H m => some (.slo n 0 1 54, H, m)) none) none
  | _ => none
noncomputable def GT : Gl := ⟨GG, orcT⟩

noncomputable def fstC : Code → Code
  | .seq a _ => a
  | c => c
noncomputable def sndC : Code → Code
  | .seq _ b => b
  | c => c
noncomputable def blockC : Code → Code
  | .block _ c => c
  | c => c
noncomputable def loopC : Code → Code
  | .loop c => c
  | c => c
noncomputable def opsC : Code → List Oper
  | .region _ ops _ => ops.toList
  | _ => []
noncomputable def bodyC (f : Func) : Code := match f.body with | some c => c | none => .skip
noncomputable def dropC : Nat → Code → Code
  | 0, c => c
  | k + 1, c => dropC k (sndC c)
noncomputable def nthC (k : Nat) (c : Code) : Code := fstC (dropC k c)
noncomputable def nthO (k : Nat) (c : Code) : Oper := match (opsC c)[k]? with | some o => o | none => default

section
variable {R : Type}
noncomputable def evN (N : Nat) (c : Code) (tm : Tr AV) (H : Heap) (n : Nat) (k : Exit → Tr AV → Heap → Nat → Option R) : Option R :=
  ev Tryz.prog GT (fun ih => evDraw2 Tryz.prog GT ih) 5000 N c tm H n k
noncomputable def evO (o : Oper) (tm : Tr AV) (H : Heap) (n : Nat) (k : AV → Heap → Nat → Option R) : Option R :=
  evOp Tryz.prog GT (ev Tryz.prog GT (fun ih => evDraw2 Tryz.prog GT ih) 5000) o tm H n k
noncomputable def nrm (k : Tr AV → Heap → Nat → Option R) : Exit → Tr AV → Heap → Nat → Option R := fun e tm H n => match e with | .normal => k tm H n | _ => none
noncomputable def exi (id : Nat) (k : Tr AV → Heap → Nat → Option R) : Exit → Tr AV → Heap → Nat → Option R := fun e tm H n => match e with | .exit j => cond (Nat.beq j id) (k tm H n) none | _ => none

/-! ### The pieces of the code -/

noncomputable def cT : Code := bodyC Tryz.f3
noncomputable def cR : Code := bodyC Tryz.f12
noncomputable def cQ : Code := bodyC Tryz.f10
noncomputable def rr0 : Code := fstC cR
noncomputable def rr1 : Code := fstC (fstC (sndC cR))
noncomputable def rL0 : Code := loopC (blockC (sndC (fstC (sndC cR))))
noncomputable def rr8 : Code := fstC (sndC (sndC cR))
noncomputable def rr2 : Code := fstC rL0
noncomputable def rr4 : Code := fstC (blockC (fstC (sndC rL0)))
noncomputable def rL2 : Code := loopC (blockC (sndC (blockC (fstC (sndC rL0)))))
noncomputable def rr3 : Code := sndC (sndC rL0)

/-- A call of round, up to its first tick. -/
noncomputable def rIn (kb : Nat) (m : Nat) (H : Heap) (n : Nat) (k : Tr AV → Heap → Nat → Option R) : Option R :=
  evN 25 rr0 (mkTr [(0, .ptr kb 0), (1, .int .i64 (.ofNat m))]) H n (nrm fun tm H n => evN 25 rr1 tm H n (nrm fun tm H n => evN 25 rr2 tm H n (nrm fun tm H n => evN 25 rr4 tm H n (nrm k))))
/-- .. and behind it. -/
noncomputable def rOut (tm : Tr AV) (H : Heap) (n : Nat) (k : AV → Heap → Nat → Option R) : Option R :=
  evN 25 (.loop rL2) tm H n (exi 2 fun tm H n => evN 25 rr3 tm H n (nrm fun tm H n => evN 25 (.loop rL0) tm H n (exi 0 fun tm H n => evN 25 rr8 tm H n (nrm fun tm H n => tget tm 4 fun o => match o with | some v => k v H n | none => none))))

/-- The operation, and its result laid in its place. -/
noncomputable def stepO (N : Nat) (o : Oper) (tm : Tr AV) (H : Heap) (n : Nat) (k : Tr AV → Heap → Nat → Option R) : Option R :=
  evO o tm H n fun v H n => putK N o.dst v tm fun tm => k tm H n
/-- The arguments of a call are these. -/
noncomputable def argsO (o : Oper) (tm : Tr AV) (l : List AV) (k : Option R) : Option R :=
  match o.op with
  | .call c => opds c.args.toList tm fun args => chkL args l k
  | _ => none

noncomputable def q4 : Code := nthC 4 cQ
noncomputable def p14 : Code := nthC 14 cT
noncomputable def p15 : Code := nthC 15 cT

/-- A call of what asks, up to its call of round. -/
noncomputable def qIn (kb bx c : Nat) (H : Heap) (n : Nat) (k : Tr AV → Heap → Nat → Option R) : Option R :=
  evN 18 (nthC 0 cQ) (mkTr [(0, .int .i64 (.ofNat c)), (1, .ptr bx 0)]) H n (nrm fun tm H n => evN 18 (nthC 1 cQ) tm H n (nrm fun tm H n => evN 18 (nthC 2 cQ) tm H n (nrm fun tm H n => evN 18 (nthC 3 cQ) tm H n (nrm fun tm H n =>
    stepO 18 (nthO 0 q4) tm H n fun tm H n => argsO (nthO 1 q4) tm [.ptr kb 0, .int .i64 2] (k tm H n)))))
noncomputable def qOut (tm : Tr AV) (v : AV) (H : Heap) (n : Nat) (k : AV → Heap → Nat → Option R) : Option R :=
  putK 18 (nthO 1 q4).dst v tm fun tm => stepO 18 (nthO 2 q4) tm H n fun tm H n => tget tm 3 fun o => match o with | some v => k v H n | none => none

/-- The round in which the answer comes. -/
noncomputable def tIn (kb : Nat) (tm : Tr AV) (H : Heap) (n : Nat) (k : Tr AV → Heap → Nat → Option R) : Option R :=
  stepO 99 (nthO 0 p14) tm H n fun tm H n => argsO (nthO 1 p14) tm [.ptr kb 0, .int .i64 3] (k tm H n)
noncomputable def tOut (tm : Tr AV) (v : AV) (H : Heap) (n : Nat) (k : Tr AV → Heap → Nat → Option R) : Option R :=
  putK 99 (nthO 1 p14).dst v tm fun tm => stepO 99 (nthO 2 p14) tm H n k
/-- The second client asks. -/
noncomputable def sIn (bx : Nat) (tm : Tr AV) (H : Heap) (n : Nat) (k : Tr AV → Heap → Nat → Option R) : Option R :=
  stepO 99 (nthO 0 p15) tm H n fun tm H n => argsO (nthO 1 p15) tm [.int .i64 1] (tget tm 66 fun o => match o with | some v => chkV v (.fn (.func 10) [] [.ptr bx 0]) (k tm H n) | none => none)
/-- The other tenant's client asks. -/
noncomputable def sOut (tm : Tr AV) (v : AV) (H : Heap) (n : Nat) (k : Tr AV → Heap → Nat → Option R) : Option R :=
  putK 99 (nthO 1 p15).dst v tm fun tm => stepO 99 (nthO 2 p15) tm H n fun tm H n => stepO 99 (nthO 3 p15) tm H n fun tm H n => stepO 99 (nthO 4 p15) tm H n fun tm H n => stepO 99 (nthO 5 p15) tm H n k

/-! ### The answer -/

def decL (L : Nat) : List Nat := cond (Nat.blt L 10) [48 + L] [48 + L / 10, 48 + L % 10]
/-- The bytes of an answer of L bytes. -/
def allC (L : Nat) (g : Bool) : List Nat := [72, 84, 84, 80, 47, 49, 46, 49, 32, 50, 48, 48, 32, 79, 75, 13, 10, 67, 97, 99, 104, 101, 45, 67, 111, 110, 116, 114, 111, 108, 58, 32, 109, 97, 120, 45, 97, 103, 101, 61] ++ digs g ++ [13, 10, 67, 111, 110, 116, 101, 110, 116, 45, 76, 101, 110, 103, 116, 104, 58, 32] ++ decL L ++ [13, 10, 13, 10] ++ (List.range L).map (· + 261)
end
end Go.Proofs.YtnllmelmmcapcaaGreatDoor.Ev
