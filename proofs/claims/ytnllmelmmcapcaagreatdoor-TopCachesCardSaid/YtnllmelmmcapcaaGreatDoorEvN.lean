/- Regions that draw their order: the evaluator's walk in the text's order. -/
import Derived.Test.YtnllmelmmcapcaaGreatDoorEvL
namespace Go.Proofs.YtnllmelmmcapcaaGreatDoor.Ev
open Go Go.RowKit
set_option linter.unusedVariables false

/-! ### Equality of values, as far as it is needed -/

noncomputable def eqS (a b : AV) : Bool :=
  match a, b with
  | .bool a, .bool b => a == b
  | .int k a, .int j b => decide (k = j) && decide (a = b)
  | .symb a, .symb b => Nat.beq a b
  | .str a, .str b => leq a b
  | .ptr b o, .ptr c p => Nat.beq b c && Nat.beq o p
  | .glob b o, .glob c p => Nat.beq b c && Nat.beq o p
  | .nilp, .nilp => true
  | .sl b o l c, .sl b' o' l' c' => Nat.beq b b' && Nat.beq o o' && Nat.beq l l' && Nat.beq c c'
  | .slo b o l c, .slo b' o' l' c' => Nat.beq b b' && Nat.beq o o' && Nat.beq l l' && Nat.beq c c'
  | .slz b o l c, .slz b' o' l' c' => Nat.beq b b' && Nat.beq o o' && Nat.beq l l' && Nat.beq c c'
  | .nilsl, .nilsl => true
  | .nilfn, .nilfn => true
  | .nilif, .nilif => true
  | _, _ => false
noncomputable def eqSL (a : List AV) : List AV → Bool :=
  List.rec (motive := fun _ => List AV → Bool) (fun b => List.rec (motive := fun _ => Bool) true (fun _ _ _ => false) b)
    (fun x _ ih b => List.rec (motive := fun _ => Bool) false (fun y ys _ => cond (eqS x y) (ih ys) false) b) a
noncomputable def eqA (a b : AV) : Bool :=
  match a, b with
  | .agg l, .agg m => eqSL l m
  | a, b => eqS a b
noncomputable def eqI (a b : AV) : Bool :=
  match a, b with
  | .iface t v, .iface u w => Nat.beq t u && eqA v w
  | a, b => eqS a b
noncomputable def eqL (a : List AV) : List AV → Bool :=
  List.rec (motive := fun _ => List AV → Bool) (fun b => List.rec (motive := fun _ => Bool) true (fun _ _ _ => false) b)
    (fun x _ ih b => List.rec (motive := fun _ => Bool) false (fun y ys _ => cond (eqI x y) (ih ys) false) b) a
noncomputable def eqV (a b : AV) : Bool :=
  match a, b with
  | .agg l, .agg m => eqL l m
  | a, b => eqI a b

section
variable (P : Program) (G : Gl) {R : Type}

noncomputable def addrOk (n0 : Nat) (a : AV) : Bool := match a with | .ptr b _ => Nat.blt b n0 | .glob _ _ => true | _ => false
abbrev Rd1 := TypeId × AV × AV
/-- All these loads read so in H. -/
noncomputable def readsK (H : Heap) (Ls : List Rd1) (k : Option R) : Option R :=
  List.rec (motive := fun _ => Option R) k (fun x _ ih => evLoad P G x.1 x.2.1 H fun u => cond (eqV u x.2.2) ih none) Ls
/-- The load reads so in all these heaps. -/
noncomputable def heapsK (Hs : List Heap) (t : TypeId) (a v : AV) (k : Option R) : Option R :=
  List.rec (motive := fun _ => Option R) k (fun H _ ih => evLoad P G t a H fun u => cond (eqV u v) ih none) Hs

/-- Behind an effect that comes behind all loads. -/
noncomputable def evDrT (ih : Ih R) (N : Nat) (ops : List Oper) (l : List Oper) : List Nat → Tr AV → Heap → Nat → (Tr AV → Heap → Nat → Option R) → Option R :=
  List.rec (motive := fun _ => List Nat → Tr AV → Heap → Nat → (Tr AV → Heap → Nat → Option R) → Option R) (fun _ tm H n k => k tm H n)
    (fun o _ next cs tm H n k => lget cs 0 fun c => ldrop cs 1 fun cs => wantK ops o tm fun want => cond want
      (cond (Nat.beq c 0 || Nat.beq c 3) (evOp P G ih o tm H n fun v H n => putK N o.dst v tm fun tm => next cs tm H n k) none)
      (putK N o.dst (.tup []) tm fun tm => next cs tm H n k)) l

noncomputable def evDr (ih : Ih R) (N : Nat) (ops : List Oper) (n0 : Nat) (l : List Oper) : List Nat → List Heap → List Rd1 → Tr AV → Heap → Nat → (Tr AV → Heap → Nat → Option R) → Option R :=
  List.rec (motive := fun _ => List Nat → List Heap → List Rd1 → Tr AV → Heap → Nat → (Tr AV → Heap → Nat → Option R) → Option R) (fun _ _ _ tm H n k => k tm H n)
    (fun o rest next cs Hs Ls tm H n k => lget cs 0 fun c => ldrop cs 1 fun cs => wantK ops o tm fun want => cond want
      (cond (Nat.beq c 0) (evOp P G ih o tm H n fun v H n => putK N o.dst v tm fun tm => next cs Hs Ls tm H n k)
        (cond (Nat.beq c 1) (match o.op with
          | .load t x => opd x tm fun a => cond (addrOk n0 a) (evLoad P G t a H fun v => heapsK P G Hs t a v (putK N o.dst v tm fun tm => next cs Hs ((t, a, v) :: Ls) tm H n k)) none
          | _ => none)
          (cond (Nat.beq c 2) (evOp P G ih o tm H n fun v H' n => readsK P G H' Ls (putK N o.dst v tm fun tm => next cs (H :: Hs) Ls tm H' n k))
            (cond (Nat.beq c 3) (evOp P G ih o tm H n fun v H n => putK N o.dst v tm fun tm => evDrT P G ih N ops rest cs tm H n k) none))))
      (putK N o.dst (.tup []) tm fun tm => next cs Hs Ls tm H n k)) l

/-- A region that draws its order. -/
noncomputable def evDraw (ih : Ih R) : Ih R := fun N c tm H n k =>
  match c with
  | .region _ ops true => (match drawCls P ops fun cs => some cs with
    | some cs => evDr P G ih N ops.toList n ops.toList cs [] [] tm H n fun tm H n => k .normal tm H n
    | none => none)
  | _ => none
end
end Go.Proofs.YtnllmelmmcapcaaGreatDoor.Ev
