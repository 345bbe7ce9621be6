/- Which regions that draw their order may be walked in the text's order: a check that the kernel is quick with. -/
import Derived.Test.YtnllmelmmcapcaaGreatDoorEvH
import Derived.CheckFast
namespace Go.Proofs.YtnllmelmmcapcaaGreatDoor.Ev
open Go Go.RowKit
set_option linter.unusedVariables false

section
variable {ops : Array Oper} {X : Fx}

structure LexOk (X : Fx) (ops : Array Oper) : Prop where
  edge : ∀ (k : Nat) o, ops[k]? = some o → ∀ e ∈ o.after, Region.binds .any e = true → e.on < k
  free : ∀ (k j : Nat) ok oj, ops[k]? = some ok → ops[j]? = some oj → k < j → (∃ e ∈ oj.after, Region.binds .any e = true ∧ e.on = k) ∨ ok.apart ops oj = true
  eff : ∀ (k j : Nat) ok oj, ops[k]? = some ok → ops[j]? = some oj → k < j → X.eff k = true → (X.M.getD j 0).testBit k = true ∨ (X.eff j = false ∧ ok.apart ops oj = true)

theorem LexOk.lexB (h : LexOk X ops) : ∀ (g k : Nat) (listed : Array Bool), k + g = ops.size → listed.size = ops.size → (∀ i, i < ops.size → listed[i]? = some (decide (i < k))) → X.lexB ops g k listed = true
  | 0, k, listed, hk, hs, hl => by
    simp only [Fx.lexB, Region.ready, List.isEmpty_iff, List.filter_eq_nil_iff, List.mem_range]
    intro i hi
    have := hl i hi
    have hik : i < k := by omega
    simp [Array.getD_eq_getD_getElem?, this, hik]
  | g + 1, k, listed, hk, hs, hl => by
    have hkn : k < ops.size := by omega
    obtain ⟨o, ho⟩ : ∃ o, ops[k]? = some o := ⟨_, Array.getElem?_eq_getElem hkn⟩
    have hu : listed.getD k true = false := by simp [Array.getD_eq_getD_getElem?, hl k hkn]
    have hun : ∀ j, j < ops.size → listed.getD j true = false → k ≤ j := fun j hj hjl => by
      rw [Array.getD_eq_getD_getElem?, hl j hj] at hjl
      simpa using hjl
    simp only [Fx.lexB, Bool.and_eq_true]
    refine ⟨⟨⟨?_, ?_⟩, ?_⟩, h.lexB g (k + 1) _ (by omega) (by simp [hs]) fun i hi => ?_⟩
    · simp only [List.contains_eq_mem, decide_eq_true_eq]
      refine mem_ready.2 ⟨hu, o, ho, fun e he hb => ?_⟩
      have := h.edge k o ho e he hb
      simp [Array.getD_eq_getD_getElem?, hl e.on (by omega), this]
    · simp only [Region.free, ho, List.all_eq_true, List.mem_range]
      intro j hj
      obtain ⟨oj, hoj⟩ : ∃ oj, ops[j]? = some oj := ⟨_, Array.getElem?_eq_getElem hj⟩
      simp only [hoj, Bool.or_eq_true, beq_iff_eq]
      by_cases e1 : j = k
      · exact .inl (.inl e1)
      · by_cases e2 : listed.getD j true = true
        · exact .inl (.inr e2)
        · have := hun j hj (by simpa using e2)
          rcases h.free k j o oj ho hoj (by omega) with ⟨e, he, hb, hon⟩ | h1
          · refine .inr (.inl (Array.any_eq_true'.2 ⟨e, he, ?_⟩))
            simp [hb, hon]
          · exact .inr (.inr h1)
    · by_cases hE : X.eff k = true
      · simp only [hE, Bool.not_true, Bool.false_or, List.all_eq_true, List.mem_range]
        intro j hj
        obtain ⟨oj, hoj⟩ : ∃ oj, ops[j]? = some oj := ⟨_, Array.getElem?_eq_getElem hj⟩
        simp only [ho, hoj, Bool.or_eq_true, beq_iff_eq, Bool.and_eq_true, Bool.not_eq_true']
        by_cases e1 : j = k
        · exact .inl (.inl (.inl e1))
        · by_cases e2 : listed.getD j true = true
          · exact .inl (.inl (.inr e2))
          · have := hun j hj (by simpa using e2)
            rcases h.eff k j o oj ho hoj (by omega) hE with h1 | h1
            · exact .inl (.inr h1)
            · exact .inr h1
      · simp [hE]
    · rw [Array.getElem?_setIfInBounds]
      by_cases e : k = i
      · subst e; simp [hs, hkn]
      · rw [if_neg e, hl i hi]
        congr 1
        by_cases e2 : i < k
        · simp [e2]; omega
        · simp [e2]; omega

/-! ### The check, by masks -/

noncomputable def accK {α R : Type} (f : α → Nat → Nat) (l : List α) : Nat → (Nat → Option R) → Option R :=
  List.rec (motive := fun _ => Nat → (Nat → Option R) → Option R) (fun n k => k n) (fun x _ ih n k => natK (f x n) fun n => ih n k) l
theorem accK_eq {α R : Type} (f : α → Nat → Nat) (l : List α) : ∀ (n : Nat) (k : Nat → Option R), accK f l n k = k (l.foldl (fun n x => f x n) n) := by
  induction l with
  | nil => intro n k; rfl
  | cons x l ih => intro n k; show natK (f x n) (fun n => accK f l n k) = _; rw [natK_eq, ih]; rfl

noncomputable def edgeF (e : Edge) (n : Nat) : Nat := cond (Region.binds .any e) (Nat.lor n (Nat.pow 2 e.on)) n
noncomputable def lookF (t : Nat) (n : Nat) : Nat := Nat.lor n (Nat.pow 2 t)
noncomputable def dstN (o : Oper) : Nat := match o.dst with | none => 0 | some d => Nat.pow 2 d
/-- The element at a place, else 0. -/
noncomputable def nthN (l : List Nat) : Nat → Nat := List.rec (motive := fun _ => Nat → Nat) (fun _ => 0) (fun x _ ih i => Nat.rec (motive := fun _ => Nat) x (fun m _ => ih m) i) l
noncomputable def befF (Ms : List Nat) (e : Edge) (n : Nat) : Nat := cond (Region.binds .any e) (Nat.lor (Nat.lor n (Nat.pow 2 e.on)) (nthN Ms e.on)) n

theorem nthN_eq (l : List Nat) : ∀ i, nthN l i = l.getD i 0 := by
  induction l with
  | nil => intro i; rfl
  | cons x l ih => intro i; cases i with
    | zero => rfl
    | succ i => show nthN l i = _; rw [ih]; simp

theorem edge_bit (l : List Edge) : ∀ (n k : Nat), (l.foldl (fun n e => edgeF e n) n).testBit k = true ↔ n.testBit k = true ∨ ∃ e ∈ l, Region.binds .any e = true ∧ e.on = k := by
  induction l with
  | nil => intro n k; simp
  | cons e l ih =>
    intro n k
    rw [List.foldl_cons, ih]
    unfold edgeF
    cases hb : Region.binds .any e with
    | false => simp [hb]
    | true =>
      have : (n ||| 2 ^ e.on).testBit k = true ↔ n.testBit k = true ∨ e.on = k := by
        rw [Nat.testBit_or, Nat.testBit_two_pow]; simp
      show (n ||| 2 ^ e.on).testBit k = true ∨ _ ↔ _
      rw [this]
      simp only [List.mem_cons, exists_eq_or_imp, hb, true_and, or_assoc]

theorem look_bit (l : List Nat) : ∀ (n k : Nat), (l.foldl (fun n t => lookF t n) n).testBit k = true ↔ n.testBit k = true ∨ k ∈ l := by
  induction l with
  | nil => intro n k; simp
  | cons t l ih =>
    intro n k
    rw [List.foldl_cons, ih]
    have : (lookF t n).testBit k = true ↔ n.testBit k = true ∨ t = k := by
      show (n ||| 2 ^ t).testBit k = true ↔ _
      rw [Nat.testBit_or, Nat.testBit_two_pow]; simp
    rw [this]
    simp only [List.mem_cons, or_assoc, @eq_comm _ t k]

theorem bef_bit (Ms : List Nat) (l : List Edge) : ∀ (n k : Nat), (l.foldl (fun n e => befF Ms e n) n).testBit k = true → n.testBit k = true ∨ ∃ e ∈ l, Region.binds .any e = true ∧ (e.on = k ∨ (Ms.getD e.on 0).testBit k = true) := by
  induction l with
  | nil => intro n k h; exact .inl h
  | cons e l ih =>
    intro n k h
    rw [List.foldl_cons] at h
    rcases ih _ _ h with h | ⟨e', he', h'⟩
    · unfold befF at h
      cases hb : Region.binds .any e with
      | false => rw [hb] at h; exact .inl h
      | true =>
        rw [hb, cond_true, nthN_eq] at h
        have h : ((n ||| 2 ^ e.on) ||| Ms.getD e.on 0).testBit k = true := h
        rw [Nat.testBit_or, Nat.testBit_or, Nat.testBit_two_pow] at h
        simp only [Bool.or_eq_true, decide_eq_true_eq] at h
        rcases h with (h | h) | h
        · exact .inl h
        · exact .inr ⟨e, List.mem_cons_self .., hb, .inl h⟩
        · exact .inr ⟨e, List.mem_cons_self .., hb, .inr h⟩
    · exact .inr ⟨e', List.mem_cons_of_mem _ he', h'⟩

theorem land_zero {a b : Nat} (h : Nat.beq (Nat.land a b) 0 = true) (k : Nat) (ha : a.testBit k = true) : b.testBit k = false := by
  have h1 : a &&& b = 0 := beq_eq' h
  have h2 : (a &&& b).testBit k = false := by rw [h1]; simp
  rw [Nat.testBit_and, ha] at h2
  simpa using h2

noncomputable def tb (n k : Nat) : Bool := Nat.beq (Nat.land (Nat.shiftRight n k) 1) 1
theorem tb_bit {n k : Nat} (h : tb n k = true) : n.testBit k = true := by
  have h1 : (n >>> k) &&& 1 = 1 := beq_eq' h
  rw [Nat.testBit, Nat.and_comm, h1]; rfl

/-! ### Kinds of operations: 0 reads nothing, 1 a load, 2 an effect, 3 an effect behind all loads, 4 none of these -/

noncomputable def opCls (P : Program) (o : Op) : Nat :=
  match o with
  | .move _ | .assign _ | .pick _ _ _ | .build _ _ | .nilCheck _ | .binOp _ _ _ _ _ | .unOp _ _ _ | .makeInterface _ _ | .makeFunc _ _ _ | .slice _ _ _ _ _ | .fieldAddr _ _ _ | .field _ _ _ | .indexAddr _ _ _ | .index _ _ _ | .extract _ _ => 0
  | .convert s d _ => (match P.underlying s, P.underlying d with
    | some (.int _), some (.int _) => 0
    | _, _ => 2)
  | .load _ _ => 1
  | .alloc _ | .box _ _ | .buildSlice _ _ _ | .store _ _ _ | .makeSlice _ _ _ => 2
  | .call c => (match c.callee with
    | .builtin .len | .builtin .cap | .builtin .min | .builtin .max => 0
    | _ => 2)
  | _ => 4

structure Inf where
  em : Nat
  lk : Nat
  dm : Nat
  bf : Nat
  c : Nat

noncomputable def infL {R : Type} (P : Program) (ops : Array Oper) (l : List Oper) : List Nat → (List Inf → Option R) → Option R :=
  List.rec (motive := fun _ => List Nat → (List Inf → Option R) → Option R) (fun _ k => k [])
    (fun o _ ih Ms k => accK edgeF o.after.toList 0 fun em => accK lookF (o.looksAt ops) 0 fun lk => natK (dstN o) fun dm => accK (befF Ms) o.after.toList 0 fun bf => natK (opCls P o.op) fun c =>
      lapp [bf] Ms fun Ms => ih Ms fun r => k (⟨em, lk, dm, bf, c⟩ :: r)) l

/-- What the masks say of an operation. -/
structure InfOk (P : Program) (ops : Array Oper) (Ms : List Nat) (o : Oper) (i : Inf) : Prop where
  em : ∀ k, i.em.testBit k = true ↔ ∃ e ∈ o.after, Region.binds .any e = true ∧ e.on = k
  lk : ∀ t, t ∈ o.looksAt ops → i.lk.testBit t = true
  dm : ∀ d, o.dst = some d → i.dm.testBit d = true
  bf : ∀ k, i.bf.testBit k = true → ∃ e ∈ o.after, Region.binds .any e = true ∧ (e.on = k ∨ (Ms.getD e.on 0).testBit k = true)
  c : i.c = opCls P o.op

theorem infL_ok {R : Type} {P : Program} {r : R} : ∀ (l : List Oper) (Ms : List Nat) {k : List Inf → Option R}, infL P ops l Ms k = some r →
    ∃ is, k is = some r ∧ is.length = l.length ∧ ∀ (j : Nat) o i, l[j]? = some o → is[j]? = some i → InfOk P ops (Ms ++ (is.take j).map Inf.bf) o i
  | [], Ms, k, h => ⟨[], h, rfl, fun j o i ho _ => by simp at ho⟩
  | o :: l, Ms, k, h => by
    have h : (accK edgeF o.after.toList 0 fun em => accK lookF (o.looksAt ops) 0 fun lk => natK (dstN o) fun dm => accK (befF Ms) o.after.toList 0 fun bf => natK (opCls P o.op) fun c =>
      lapp [bf] Ms fun Ms => infL P ops l Ms fun r => k (⟨em, lk, dm, bf, c⟩ :: r)) = some r := h
    rw [accK_eq, accK_eq, natK_eq, accK_eq, natK_eq, lapp_eq] at h
    obtain ⟨is, hk, hlen, hall⟩ := infL_ok l _ h
    refine ⟨_ :: is, hk, by simp [hlen], fun j o' i ho hi => ?_⟩
    cases j with
    | zero =>
      simp only [List.getElem?_cons_zero, Option.some.injEq] at ho hi
      subst ho hi
      refine ⟨fun k => ?_, fun t ht => ?_, fun d hd => ?_, fun k hk => ?_, rfl⟩
      · rw [edge_bit]; simp
      · rw [look_bit]; exact .inr ht
      · show (dstN o).testBit d = true
        unfold dstN; rw [hd]; show (2 ^ d).testBit d = true; simp
      · rcases bef_bit _ _ _ _ hk with h | ⟨e, he, h⟩
        · simp at h
        · exact ⟨e, by simpa using he, by simpa using h⟩
    | succ j =>
      have := hall j o' i (by simpa using ho) (by simpa using hi)
      simpa [List.append_assoc] using this

/-! ### Pairs -/

noncomputable def apartM (a b : Inf) : Bool := cond (Nat.beq (Nat.land a.dm b.lk) 0) (cond (Nat.beq (Nat.land a.dm b.dm) 0) (Nat.beq (Nat.land b.dm a.lk) 0) false) false

theorem apartM_ok {P : Program} {Ms Ms' : List Nat} {x y : Oper} {a b : Inf} (ha : InfOk P ops Ms x a) (hb : InfOk P ops Ms' y b) (h : apartM a b = true) : x.apart ops y = true := by
  unfold apartM at h
  have h1 : Nat.beq (Nat.land a.dm b.lk) 0 = true := by cases e : Nat.beq (Nat.land a.dm b.lk) 0 <;> rw [e] at h <;> first | rfl | cases h
  rw [h1, cond_true] at h
  have h2 : Nat.beq (Nat.land a.dm b.dm) 0 = true := by cases e : Nat.beq (Nat.land a.dm b.dm) 0 <;> rw [e] at h <;> first | rfl | cases h
  rw [h2, cond_true] at h
  have q1 : ∀ d, x.dst = some d → d ∉ y.looksAt ops := fun d hd hm => by
    have := land_zero h1 d (ha.dm d hd); rw [hb.lk d hm] at this; cases this
  have q2 : ∀ d, x.dst = some d → y.dst ≠ some d := fun d hd hm => by
    have := land_zero h2 d (ha.dm d hd); rw [hb.dm d hm] at this; cases this
  have q3 : ∀ d, y.dst = some d → d ∉ x.looksAt ops := fun d hd hm => by
    have := land_zero h d (hb.dm d hd); rw [ha.lk d hm] at this; cases this
  unfold Oper.apart
  rw [Bool.and_eq_true]
  constructor
  · cases hx : x.dst with
    | none => rfl
    | some d =>
      have := q1 d hx; have := q2 d hx
      simp_all
  · cases hy : y.dst with
    | none => rfl
    | some d =>
      have := q3 d hy
      simp_all

noncomputable def allI (f : Inf → Bool) (l : List Inf) : Bool := List.rec (motive := fun _ => Bool) true (fun x _ ih => cond (f x) ih false) l
theorem allI_ok {f : Inf → Bool} : ∀ {l : List Inf}, allI f l = true → ∀ x ∈ l, f x = true
  | [], _, x, hx => by simp at hx
  | y :: l, h, x, hx => by
    have h : cond (f y) (allI f l) false = true := h
    cases hy : f y with
    | false => rw [hy] at h; cases h
    | true =>
      rw [hy] at h
      rcases List.mem_cons.1 hx with rfl | hx
      · exact hy
      · exact allI_ok h x hx

noncomputable def chkT (l : List Inf) : Nat → Bool :=
  List.rec (motive := fun _ => Nat → Bool) (fun _ => true)
    (fun a tl ih k => cond (Nat.blt a.em (Nat.pow 2 k)) (cond (Nat.blt a.c 4)
      (cond (allI (fun b => cond (cond (tb b.em k) true (apartM a b)) (cond (Nat.ble 2 a.c) (cond (tb b.bf k) true (cond (Nat.ble 2 b.c) false (apartM a b))) true) false) tl) (ih (Nat.succ k)) false) false) false) l

theorem cond_t {a b : Bool} (h : cond a b false = true) : a = true ∧ b = true := by cases a <;> cases b <;> first | exact ⟨rfl, rfl⟩ | cases h

theorem chkT_ok : ∀ {l : List Inf} {k : Nat}, chkT l k = true → ∀ (i : Nat) a, l[i]? = some a → a.em < 2 ^ (k + i) ∧ a.c < 4 ∧ ∀ (j : Nat) b, i < j → l[j]? = some b →
    (tb b.em (k + i) = true ∨ apartM a b = true) ∧ (2 ≤ a.c → tb b.bf (k + i) = true ∨ (b.c < 2 ∧ apartM a b = true))
  | [], _, _, i, a, ha => by simp at ha
  | x :: l, k, h, i, a, ha => by
    have h : cond (Nat.blt x.em (Nat.pow 2 k)) (cond (Nat.blt x.c 4)
      (cond (allI (fun b => cond (cond (tb b.em k) true (apartM x b)) (cond (Nat.ble 2 x.c) (cond (tb b.bf k) true (cond (Nat.ble 2 b.c) false (apartM x b))) true) false) l) (chkT l (Nat.succ k)) false) false) false = true := h
    obtain ⟨h1, h⟩ := cond_t h
    obtain ⟨h2, h⟩ := cond_t h
    obtain ⟨h3, h⟩ := cond_t h
    cases i with
    | zero =>
      simp only [List.getElem?_cons_zero, Option.some.injEq] at ha
      subst ha
      refine ⟨blt_lt h1, blt_lt h2, fun j b hj hb => ?_⟩
      obtain ⟨j, rfl⟩ : ∃ j', j = j' + 1 := ⟨j - 1, by omega⟩
      have hb : l[j]? = some b := by simpa using hb
      obtain ⟨h4, h5⟩ := cond_t (allI_ok h3 b (List.mem_of_getElem? hb))
      refine ⟨?_, fun hc => ?_⟩
      · cases e : tb b.em k with
        | true => exact .inl (by simp)
        | false => rw [e] at h4; exact .inr h4
      · have hc' : Nat.ble 2 x.c = true := by rw [Nat.ble_eq]; exact hc
        rw [hc', cond_true] at h5
        cases e : tb b.bf k with
        | true => exact .inl (by simp)
        | false =>
          rw [e, cond_false] at h5
          cases e2 : Nat.ble 2 b.c with
          | true => rw [e2] at h5; cases h5
          | false =>
            rw [e2, cond_false] at h5
            refine .inr ⟨?_, h5⟩
            rcases Nat.lt_or_ge b.c 2 with h | h
            · exact h
            · have : Nat.ble 2 b.c = true := by rw [Nat.ble_eq]; exact h
              rw [this] at e2; cases e2
    | succ i =>
      have ha : l[i]? = some a := by simpa using ha
      obtain ⟨g1, g2, g3⟩ := chkT_ok h i a ha
      rw [show Nat.succ k + i = k + (i + 1) by omega] at g1 g3
      refine ⟨g1, g2, fun j b hj hb => ?_⟩
      obtain ⟨j, rfl⟩ : ∃ j', j = j' + 1 := ⟨j - 1, by omega⟩
      exact g3 j b (by omega) (by simpa using hb)

/-! ### The kinds, told apart by what comes before -/

noncomputable def ldsK {R : Type} (l : List Inf) : Nat → Nat → (Nat → Option R) → Option R :=
  List.rec (motive := fun _ => Nat → Nat → (Nat → Option R) → Option R) (fun _ n k => k n)
    (fun a _ ih i n k => cond (Nat.beq a.c 1) (natK (Nat.lor n (Nat.pow 2 i)) fun n => ih (Nat.succ i) n k) (ih (Nat.succ i) n k)) l
noncomputable def clsOf (ld : Nat) (a : Inf) : Nat := cond (Nat.beq a.c 2) (cond (Nat.beq (Nat.land a.bf ld) ld) 3 2) a.c
noncomputable def clsL {R : Type} (ld : Nat) (l : List Inf) : (List Nat → Option R) → Option R := lmap (fun a (k : Nat → Option R) => natK (clsOf ld a) k) l

noncomputable def drawCls {R : Type} (P : Program) (ops : Array Oper) (k : List Nat → Option R) : Option R :=
  infL P ops ops.toList [] fun is => cond (chkT is 0) (ldsK is 0 0 fun ld => clsL ld is k) none

theorem ldsK_ok {R : Type} {r : R} : ∀ (l : List Inf) (i n : Nat) {k : Nat → Option R}, ldsK l i n k = some r → ∃ m, k m = some r ∧ (∀ j, n.testBit j = true → m.testBit j = true) ∧ ∀ (j : Nat) a, l[j]? = some a → a.c = 1 → m.testBit (i + j) = true
  | [], i, n, k, h => ⟨n, h, fun j hj => hj, fun j a ha => by simp at ha⟩
  | a :: l, i, n, k, h => by
    have h : cond (Nat.beq a.c 1) (natK (Nat.lor n (Nat.pow 2 i)) fun n => ldsK l (Nat.succ i) n k) (ldsK l (Nat.succ i) n k) = some r := h
    cases hc : Nat.beq a.c 1 with
    | true =>
      rw [hc, cond_true, natK_eq] at h
      obtain ⟨m, h1, h2, h3⟩ := ldsK_ok l _ _ h
      refine ⟨m, h1, fun j hj => h2 j ?_, fun j b hb hbc => ?_⟩
      · show (n ||| 2 ^ i).testBit j = true
        rw [Nat.testBit_or, hj]; rfl
      · cases j with
        | zero =>
          refine h2 _ ?_
          show (n ||| 2 ^ i).testBit i = true
          rw [Nat.testBit_or, Nat.testBit_two_pow]; simp
        | succ j => rw [show i + (j + 1) = Nat.succ i + j by omega]; exact h3 j b (by simpa using hb) hbc
    | false =>
      rw [hc, cond_false] at h
      obtain ⟨m, h1, h2, h3⟩ := ldsK_ok l _ _ h
      refine ⟨m, h1, h2, fun j b hb hbc => ?_⟩
      cases j with
      | zero =>
        simp only [List.getElem?_cons_zero, Option.some.injEq] at hb
        subst hb; rw [hbc] at hc; cases hc
      | succ j => rw [show i + (j + 1) = Nat.succ i + j by omega]; exact h3 j b (by simpa using hb) hbc

/-- Fx's words for the kinds. -/
def fxOf (cs M : List Nat) : Fx := ⟨(List.range cs.length).filter fun i => cs[i]? == some 2, (List.range cs.length).filter fun i => cs[i]? == some 3, (List.range cs.length).filter fun i => cs[i]? == some 1, M.toArray⟩

theorem fxOf_mem {cs : List Nat} {c i : Nat} : ((List.range cs.length).filter fun i => cs[i]? == some c).contains i = true ↔ cs[i]? = some c := by
  simp only [List.contains_eq_mem, decide_eq_true_eq, List.mem_filter, List.mem_range, beq_iff_eq]
  refine ⟨fun h => h.2, fun h => ⟨(List.getElem?_eq_some_iff.1 h).1, h⟩⟩

theorem fxOf_eff {cs M : List Nat} {i : Nat} : (fxOf cs M).eff i = true ↔ cs[i]? = some 2 ∨ cs[i]? = some 3 := by
  unfold Fx.eff
  rw [Bool.or_eq_true]
  simp only [fxOf, fxOf_mem]

theorem drawCls_ok {R : Type} {P : Program} {r : R} {k : List Nat → Option R} (h : drawCls P ops k = some r) :
    ∃ cs M, k cs = some r ∧ cs.length = ops.size ∧ (fxOf cs M).sound ops ∧ LsOk (fxOf cs M) ∧ LexOk (fxOf cs M) ops ∧ Region.noSelect ops = true ∧
      ∀ (i : Nat) o c, ops[i]? = some o → cs[i]? = some c → opCls P o.op < 4 ∧ (c = opCls P o.op ∨ (opCls P o.op = 2 ∧ c = 3)) := by
  unfold drawCls at h
  obtain ⟨is, h, hlen, hall⟩ := infL_ok _ _ h
  obtain ⟨hchk, h⟩ := cond_some h
  obtain ⟨ld, h, _, hld⟩ := ldsK_ok _ _ _ h
  have hcl : ∃ cs, k cs = some r ∧ cs = is.map (clsOf ld) := by
    obtain ⟨cs, h, hl, hc⟩ := lmap_some (Q := fun (a : Inf) (c : Nat) => c = clsOf ld a) (fun x _ k r hx => ⟨_, hx, rfl⟩) h
    refine ⟨cs, h, List.ext_getElem? fun i => ?_⟩
    rw [List.getElem?_map]
    by_cases hi : i < is.length
    · have h1 : is[i]? = some is[i] := List.getElem?_eq_getElem hi
      have h2 : cs[i]? = some (cs[i]'(by omega)) := List.getElem?_eq_getElem (by omega)
      rw [h1, h2, hc i _ _ h1 h2]; rfl
    · rw [List.getElem?_eq_none (by omega), List.getElem?_eq_none (by omega)]; rfl
  obtain ⟨cs, h, rfl⟩ := hcl
  have hlen' : is.length = ops.size := by rw [hlen]; simp
  have get : ∀ (i : Nat) o, ops[i]? = some o → ∃ a, is[i]? = some a ∧ InfOk P ops ((is.take i).map Inf.bf) o a := fun i o ho => by
    have hi : i < is.length := by rw [hlen']; exact (Array.getElem?_eq_some_iff.1 ho).1
    refine ⟨_, List.getElem?_eq_getElem hi, ?_⟩
    have := hall i o _ (by simpa using ho) (List.getElem?_eq_getElem hi)
    simpa using this
  have chk := chkT_ok hchk
  have bfM : ∀ (i : Nat) a, is[i]? = some a → ((is.map Inf.bf).toArray.getD i 0) = a.bf := fun i a ha => by
    simp [Array.getD_eq_getD_getElem?, ha]
  have clsv : ∀ (a : Inf), clsOf ld a = a.c ∨ (a.c = 2 ∧ clsOf ld a = 3) := fun a => by
    unfold clsOf
    cases e : Nat.beq a.c 2 with
    | false => exact .inl rfl
    | true =>
      have := beq_eq' e
      cases Nat.beq (Nat.land a.bf ld) ld with
      | true => exact .inr ⟨this, rfl⟩
      | false => exact .inl (by rw [this]; rfl)
  refine ⟨_, is.map Inf.bf, h, by simp [hlen'], fun j oj hj k hk => ?_, fun i e hi he => ?_, ⟨fun k o ho e he hb => ?_, fun k j ok oj hk hj hkj => ?_, fun k j ok oj hk hj hkj heff => ?_⟩, ?_, fun i o c ho hc => ?_⟩
  · obtain ⟨a, ha, hok⟩ := get j oj hj
    have hk : ((is.map Inf.bf).toArray.getD j 0).testBit k = true := hk
    rw [bfM j a ha] at hk
    obtain ⟨e, he, hb, h1⟩ := hok.bf k hk
    refine ⟨e, he, hb, h1.imp id fun h1 => ?_⟩
    show ((is.map Inf.bf).toArray.getD e.on 0).testBit k = true
    rw [List.getD_eq_getElem?_getD, List.getElem?_map, List.getElem?_take] at h1
    split at h1
    · simpa [Array.getD_eq_getD_getElem?] using h1
    · simp at h1
  · have hi : (is.map (clsOf ld))[i]? = some 1 := fxOf_mem.1 hi
    have he : (is.map (clsOf ld))[e]? = some 3 := fxOf_mem.1 he
    rw [List.getElem?_map] at hi he
    obtain ⟨a, ha, ha'⟩ := Option.map_eq_some_iff.1 hi
    obtain ⟨b, hb, hb'⟩ := Option.map_eq_some_iff.1 he
    show ((is.map Inf.bf).toArray.getD e 0).testBit i = true
    rw [bfM e b hb]
    have hac : a.c = 1 := by rcases clsv a with h | h <;> omega
    have h1 := hld i a ha hac
    rw [Nat.zero_add] at h1
    have hbc : Nat.land b.bf ld = ld := by
      unfold clsOf at hb'
      cases e1 : Nat.beq b.c 2 with
      | false =>
        rw [e1] at hb'
        obtain ⟨o, ho⟩ : ∃ o, ops[e]? = some o := ⟨_, Array.getElem?_eq_getElem (by rw [← hlen']; exact (List.getElem?_eq_some_iff.1 hb).1)⟩
        obtain ⟨b', hb1, hok⟩ := get e o ho
        rw [hb] at hb1; cases hb1
        have h2 := hok.c
        have hb' : b.c = 3 := hb'
        exfalso
        rw [hb'] at h2
        revert h2
        unfold opCls
        split <;> first | omega | (split <;> omega)
      | true =>
        rw [e1, cond_true] at hb'
        cases e2 : Nat.beq (Nat.land b.bf ld) ld with
        | true => exact beq_eq' e2
        | false => rw [e2] at hb'; cases hb'
    have h2 : (b.bf &&& ld).testBit i = true := by show (Nat.land b.bf ld).testBit i = true; rw [hbc]; exact h1
    rw [Nat.testBit_and, Bool.and_eq_true] at h2
    exact h2.1
  · obtain ⟨a, ha, hok⟩ := get k o ho
    have h1 := (chk k a ha).1
    rw [Nat.zero_add] at h1
    have h2 := (hok.em e.on).2 ⟨e, he, hb, rfl⟩
    rcases Nat.lt_or_ge e.on k with h | h
    · exact h
    · rw [Nat.testBit_lt_two_pow (Nat.lt_of_lt_of_le h1 (Nat.pow_le_pow_right (by omega) h))] at h2; cases h2
  · obtain ⟨a, ha, hok⟩ := get k ok hk
    obtain ⟨b, hb, hok'⟩ := get j oj hj
    have h1 := ((chk k a ha).2.2 j b hkj hb).1
    rw [Nat.zero_add] at h1
    rcases h1 with h1 | h1
    · exact .inl ((hok'.em k).1 (tb_bit h1))
    · exact .inr (apartM_ok hok hok' h1)
  · obtain ⟨a, ha, hok⟩ := get k ok hk
    obtain ⟨b, hb, hok'⟩ := get j oj hj
    have heff := fxOf_eff.1 heff
    rw [List.getElem?_map, ha] at heff
    have hac : 2 ≤ a.c := by rcases clsv a with h | h <;> rcases heff with h' | h' <;> simp at h' <;> omega
    have h1 := ((chk k a ha).2.2 j b hkj hb).2 hac
    rw [Nat.zero_add] at h1
    rcases h1 with h1 | ⟨h1, h2⟩
    · refine .inl ?_
      show ((is.map Inf.bf).toArray.getD j 0).testBit k = true
      rw [bfM j b hb]; exact tb_bit h1
    · refine .inr ⟨?_, apartM_ok hok hok' h2⟩
      cases e : (fxOf (is.map (clsOf ld)) (is.map Inf.bf)).eff j with
      | false => rfl
      | true =>
        have := fxOf_eff.1 e
        rw [List.getElem?_map, hb] at this
        rcases clsv b with h | h <;> rcases this with h' | h' <;> simp at h' <;> omega
  · unfold Region.noSelect
    rw [Array.all_eq_true]
    intro i hi
    obtain ⟨a, ha, hok⟩ := get i _ (Array.getElem?_eq_getElem hi)
    have h1 := (chk i a ha).2.1
    rw [hok.c] at h1
    cases e : ops[i].op <;> first | rfl | (rw [e] at h1; simp [opCls] at h1)
  · obtain ⟨a, ha, hok⟩ := get i o ho
    rw [List.getElem?_map, ha] at hc
    have hc : clsOf ld a = c := by simpa using hc
    have := (chk i a ha).2.1
    rw [← hok.c, ← hc]
    exact ⟨this, clsv a⟩
end
end Go.Proofs.YtnllmelmmcapcaaGreatDoor.Ev
