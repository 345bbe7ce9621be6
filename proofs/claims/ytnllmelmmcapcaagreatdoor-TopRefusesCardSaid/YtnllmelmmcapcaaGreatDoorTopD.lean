/- TopRefuses: what the evaluator is asked. -/
import Derived.Test.YtnllmelmmcapcaaGreatDoorEvFe
import Derived.Test.YtnllmelmmcapcaaGreatDoorProg
namespace Go.Proofs.YtnllmelmmcapcaaGreatDoor.Ev
open Go Go.RowKit
set_option linter.unusedVariables false

/-- What is known of the program's variables: the powers of ten, the roots; that MaxLen holds some number. -/
noncomputable def pows : List AV := [.int .u64 1, .int .u64 10, .int .u64 100, .int .u64 1000, .int .u64 10000, .int .u64 100000, .int .u64 1000000, .int .u64 10000000, .int .u64 100000000, .int .u64 1000000000, .int .u64 10000000000, .int .u64 100000000000, .int .u64 1000000000000, .int .u64 10000000000000, .int .u64 100000000000000, .int .u64 1000000000000000, .int .u64 10000000000000000, .int .u64 100000000000000000, .int .u64 1000000000000000000, .int .u64 10000000000000000000]
noncomputable def roots : List AV := [.int .u32 1116352408, .int .u32 1899447441, .int .u32 3049323471, .int .u32 3921009573, .int .u32 961987163, .int .u32 1508970993, .int .u32 2453635748, .int .u32 2870763221, .int .u32 3624381080, .int .u32 310598401, .int .u32 607225278, .int .u32 1426881987, .int .u32 1925078388, .int .u32 2162078206, .int .u32 2614888103, .int .u32 3248222580, .int .u32 3835390401, .int .u32 4022224774, .int .u32 264347078, .int .u32 604807628, .int .u32 770255983, .int .u32 1249150122, .int .u32 1555081692, .int .u32 1996064986, .int .u32 2554220882, .int .u32 2821834349, .int .u32 2952996808, .int .u32 3210313671, .int .u32 3336571891, .int .u32 3584528711, .int .u32 113926993, .int .u32 338241895, .int .u32 666307205, .int .u32 773529912, .int .u32 1294757372, .int .u32 1396182291, .int .u32 1695183700, .int .u32 1986661051, .int .u32 2177026350, .int .u32 2456956037, .int .u32 2730485921, .int .u32 2820302411, .int .u32 3259730800, .int .u32 3345764771, .int .u32 3516065817, .int .u32 3600352804, .int .u32 4094571909, .int .u32 275423344, .int .u32 430227734, .int .u32 506948616, .int .u32 659060556, .int .u32 883997877, .int .u32 958139571, .int .u32 1322822218, .int .u32 1537002063, .int .u32 1747873779, .int .u32 1955562222, .int .u32 2024104815, .int .u32 2227730452, .int .u32 2361852424, .int .u32 2428436474, .int .u32 2756734187, .int .u32 3204031479, .int .u32 3329325298]
noncomputable def GG : Tr (List AV) := .nd (.nd .lf (some pows) (.nd .lf (some roots) .lf)) none (.nd (.nd .lf (some []) .lf) none .lf)

noncomputable def fstC : Code → Code
  | .seq a _ => a
  | c => c
noncomputable def sndC : Code → Code
  | .seq _ b => b
  | c => c
noncomputable def bodyC (f : Func) : Code := match f.body with | some c => c | none => .skip

noncomputable def c4 : Code := bodyC Tryz.f4
noncomputable def r0 : Code := fstC c4
noncomputable def r1 : Code := fstC (sndC c4)
noncomputable def r2 : Code := fstC (sndC (sndC c4))
noncomputable def r3 : Code := sndC (sndC (sndC c4))

noncomputable def evC (N : Nat) (c : Code) (tm : Tr AV) (H : Heap) (n : Nat) (k : Exit → Tr AV → Heap → Nat → Option Unit) : Option Unit :=
  ev Tryz.prog GG (fun ih => evDraw2 Tryz.prog GG ih) 5000 N c tm H n k

/-- The tenant is the one of number r. -/
noncomputable def evTop (r : Nat) (web : Bool) : Option Unit :=
  tset (some (.any 0)) 24 .lf 0 fun tm => tset (some (.bool web)) 24 tm 1 fun tm =>
  evC 107 r0 tm .lf 0 fun e tm H n => (match e with
    | .normal => evC 107 r1 tm H n fun e tm H n => (match e with
      | .normal => tget tm 0 fun o => (match o with
        | some (.any 0) => tset none 24 tm 16 fun tm => tset none 24 tm 17 fun tm => tset (some (.int .i64 (.ofNat r))) 24 tm 0 fun tm =>
          evC 107 r3 tm H n fun e tm H n => (match e with
            | .ret => tget tm 4 fun o => (match o with | some (.bool true) => some () | _ => none)
            | _ => none)
        | _ => none)
      | _ => none)
    | _ => none)

end Go.Proofs.YtnllmelmmcapcaaGreatDoor.Ev
