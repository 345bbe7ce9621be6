/- Regions in which a block is made beside a call: the check, by masks. -/
import Derived.Test.YtnllmelmmcapcaaGreatDoorEvFa
namespace Go.Proofs.YtnllmelmmcapcaaGreatDoor.Ev
open Go Go.RowKit
set_option linter.unusedVariables false

noncomputable def zipI (l : List Oper) : Nat → List Inf → List It :=
  List.rec (motive := fun _ => Nat → List Inf → List It) (fun _ _ => []) (fun o _ ih k is => List.rec (motive := fun _ => List It) [] (fun a as _ => ⟨k, o, a⟩ :: ih (Nat.succ k) as) is) l
noncomputable def fstI (f : It → Bool) (l : List It) : Option It := List.rec (motive := fun _ => Option It) none (fun x _ ih => cond (f x) (some x) ih) l
noncomputable def filI (f : It → Bool) (l : List It) : List It := List.rec (motive := fun _ => List It) [] (fun x _ ih => cond (f x) (x :: ih) ih) l
noncomputable def allT (f : It → Bool) (l : List It) : Bool := List.rec (motive := fun _ => Bool) true (fun x _ ih => cond (f x) ih false) l
noncomputable def appI (a b : List It) : List It := List.rec (motive := fun _ => List It) b (fun x _ ih => x :: ih) a
noncomputable def bitsI (l : List It) (n : Nat) : Nat := List.rec (motive := fun _ => Nat) n (fun x _ ih => Nat.lor (Nat.pow 2 x.k) ih) l
noncomputable def subM (a b : Nat) : Bool := Nat.beq (Nat.land a b) a
noncomputable def noG (o : Oper) : Bool := match o.guard with | none => true | some _ => false

noncomputable def ordB (R : List It) (l : List It) : Nat → Bool :=
  List.rec (motive := fun _ => Nat → Bool) (fun _ => true) (fun x tl ih listed =>
    cond (subM x.a.em listed) (cond (tb listed x.k) false
      (cond (allT (fun y => cond (Nat.beq y.k x.k) false (cond (cond (tb y.a.em x.k) true (apartM x.a y.a)) (cond (Nat.ble 2 x.a.c) (cond (tb y.a.bf x.k) true (cond (Nat.ble 2 y.a.c) false (apartM x.a y.a))) true) false)) (appI tl R))
        (ih (Nat.lor listed (Nat.pow 2 x.k))) false)) false) l

structure Fl where
  c : It
  a : It
  p1 : List It
  p3 : List It
  dc : Nat
  da : Nat

noncomputable def inP1 (c a : Nat) (x : It) : Bool := cond (Nat.ble 2 x.a.c) false (cond (tb x.a.bf c) false (cond (tb x.a.bf a) false true))
noncomputable def inP3 (c a : Nat) (x : It) : Bool := cond (Nat.beq x.k c) false (cond (Nat.beq x.k a) false (cond (inP1 c a x) false true))

noncomputable def flB (n : Nat) (its : List It) (c a : It) (p1 p3 : List It) : Bool :=
  cond (allT (fun x => cond (noG x.o) (Nat.blt x.a.c 4) false) its)
  (cond (ordB (c :: a :: p3) p1 0)
  (cond (allT (fun y => cond (subM y.a.em (bitsI p1 0)) false (cond (Nat.beq y.a.c 1) false (cond (Nat.ble 2 y.a.c) (allT (fun x => cond (Nat.beq x.a.c 1) (tb y.a.bf x.k) true) p1) true))) p3)
  (cond (subM c.a.em (bitsI p1 0))
  (cond (tb (bitsI p1 0) c.k) false
  (cond (ordB [] (a :: p3) (Nat.lor (bitsI p1 0) (Nat.pow 2 c.k)))
  (cond (ordB [] (c :: p3) (Nat.lor (bitsI p1 0) (Nat.pow 2 a.k)))
  (cond (Nat.beq (bitsI (c :: a :: appI p1 p3) 0) (Nat.sub (Nat.pow 2 n) 1))
  (cond (Nat.beq (Nat.add (List.length p1) (Nat.succ (Nat.succ (List.length p3)))) n)
  (cond (Nat.beq c.k a.k) false true) false) false) false) false)) false) false) false) false

noncomputable def floatCls (P : Program) (ops : Array Oper) : Option Fl :=
  infL P ops ops.toList [] fun is =>
    match fstI (fun x => Nat.ble 2 x.a.c) (zipI ops.toList 0 is) with
    | some c => (match fstI (fun x => cond (Nat.ble 2 x.a.c) (cond (Nat.beq x.k c.k) false true) false) (zipI ops.toList 0 is) with
      | some a => (match c.o.dst, a.o.dst with
        | some dc, some da => cond (Nat.beq dc da) none (cond (flB (List.length ops.toList) (zipI ops.toList 0 is) c a (filI (inP1 c.k a.k) (zipI ops.toList 0 is)) (filI (inP3 c.k a.k) (zipI ops.toList 0 is)))
            (some ⟨c, a, filI (inP1 c.k a.k) (zipI ops.toList 0 is), filI (inP3 c.k a.k) (zipI ops.toList 0 is), dc, da⟩) none)
        | _, _ => none)
      | none => none)
    | none => none

theorem mem_zipI : ∀ (l : List Oper) (k : Nat) (is : List Inf) (it : It), it ∈ zipI l k is → ∃ j, it.k = k + j ∧ l[j]? = some it.o ∧ is[j]? = some it.a
  | [], k, is, it, h => by simp [zipI] at h
  | o :: l, k, [], it, h => by simp [zipI] at h
  | o :: l, k, a :: as, it, h => by
    have h : it ∈ (⟨k, o, a⟩ : It) :: zipI l (Nat.succ k) as := h
    rcases List.mem_cons.1 h with rfl | h
    · exact ⟨0, rfl, rfl, rfl⟩
    · obtain ⟨j, h1, h2, h3⟩ := mem_zipI l _ as it h
      exact ⟨j + 1, by omega, by simpa using h2, by simpa using h3⟩

theorem fstI_some {f : It → Bool} : ∀ {l : List It} {x : It}, fstI f l = some x → x ∈ l ∧ f x = true
  | [], x, h => by simp [fstI] at h
  | y :: l, x, h => by
    have h : cond (f y) (some y) (fstI f l) = some x := h
    cases hy : f y with
    | true => rw [hy] at h; cases h; exact ⟨List.mem_cons_self .., hy⟩
    | false => rw [hy] at h; obtain ⟨h1, h2⟩ := fstI_some h; exact ⟨List.mem_cons_of_mem _ h1, h2⟩

theorem mem_filI {f : It → Bool} : ∀ {l : List It} {x : It}, x ∈ filI f l ↔ x ∈ l ∧ f x = true
  | [], x => by simp [filI]
  | y :: l, x => by
    have e : filI f (y :: l) = cond (f y) (y :: filI f l) (filI f l) := rfl
    rw [e]
    cases hy : f y with
    | true =>
      rw [cond_true, List.mem_cons, mem_filI, List.mem_cons]
      constructor
      · rintro (rfl | ⟨h1, h2⟩)
        · exact ⟨.inl rfl, hy⟩
        · exact ⟨.inr h1, h2⟩
      · rintro ⟨rfl | h1, h2⟩
        · exact .inl rfl
        · exact .inr ⟨h1, h2⟩
    | false =>
      rw [cond_false, mem_filI, List.mem_cons]
      constructor
      · rintro ⟨h1, h2⟩; exact ⟨.inr h1, h2⟩
      · rintro ⟨rfl | h1, h2⟩
        · rw [hy] at h2; cases h2
        · exact ⟨h1, h2⟩

theorem allT_ok {f : It → Bool} : ∀ {l : List It}, allT f l = true → ∀ x ∈ l, f x = true
  | [], _, x, hx => by simp at hx
  | y :: l, h, x, hx => by
    have h : cond (f y) (allT f l) false = true := h
    obtain ⟨h1, h2⟩ := cond_t h
    rcases List.mem_cons.1 hx with rfl | hx
    · exact h1
    · exact allT_ok h2 x hx

theorem appI_eq (a b : List It) : appI a b = a ++ b := by
  induction a with
  | nil => rfl
  | cons x a ih => exact congrArg (x :: ·) ih

theorem bitsI_bit : ∀ (l : List It) (n k : Nat), (bitsI l n).testBit k = true ↔ n.testBit k = true ∨ ∃ x ∈ l, x.k = k
  | [], n, k => by simp [bitsI]
  | x :: l, n, k => by
    have e : bitsI (x :: l) n = Nat.lor (Nat.pow 2 x.k) (bitsI l n) := rfl
    rw [e]
    have : (2 ^ x.k ||| bitsI l n).testBit k = true ↔ x.k = k ∨ (bitsI l n).testBit k = true := by
      rw [Nat.testBit_or, Nat.testBit_two_pow]; simp
    refine this.trans ?_
    rw [bitsI_bit l n k]
    simp only [List.mem_cons, exists_eq_or_imp]
    constructor
    · rintro (h | h | h)
      · exact .inr (.inl h)
      · exact .inl h
      · exact .inr (.inr h)
    · rintro (h | h | h)
      · exact .inr (.inl h)
      · exact .inl h
      · exact .inr (.inr h)

theorem subM_ok {a b : Nat} (h : subM a b = true) (k : Nat) (hk : a.testBit k = true) : b.testBit k = true := by
  have h := beq_eq' h
  have h2 : (a &&& b).testBit k = true := by show (Nat.land a b).testBit k = true; rw [h]; exact hk
  rw [Nat.testBit_and, Bool.and_eq_true] at h2
  exact h2.2

/-- The mask tells what is listed. -/
structure Masks (n mask : Nat) (listed : Array Bool) : Prop where
  size : listed.size = n
  at_ : ∀ j, j < n → listed[j]? = some (mask.testBit j)
  lt : ∀ j, mask.testBit j = true → j < n

theorem lor_bit (mask k j : Nat) : (Nat.lor mask (Nat.pow 2 k)).testBit j = (mask.testBit j || decide (k = j)) := by
  show (mask ||| 2 ^ k).testBit j = _
  rw [Nat.testBit_or, Nat.testBit_two_pow]

theorem Masks.set {n mask k : Nat} {listed : Array Bool} (h : Masks n mask listed) (hk : k < n) : Masks n (Nat.lor mask (Nat.pow 2 k)) (listed.setIfInBounds k true) := by
  refine ⟨by simp [h.size], fun j hj => ?_, fun j hj => ?_⟩
  · rw [Array.getElem?_setIfInBounds, h.at_ j hj, lor_bit]
    by_cases e : k = j
    · subst e; simp [h.size, hj]
    · simp [e]
  · rw [lor_bit, Bool.or_eq_true] at hj
    rcases hj with hj | hj
    · exact h.lt j hj
    · have : k = j := by simpa using hj
      omega

theorem Masks.get {n mask : Nat} {listed : Array Bool} (h : Masks n mask listed) {j : Nat} (hj : j < n) (d : Bool) : listed.getD j d = mask.testBit j := by
  simp [Array.getD_eq_getD_getElem?, h.at_ j hj]

theorem Masks.congr {n m1 m2 : Nat} {listed : Array Bool} (h : Masks n m1 listed) (e : ∀ j, m1.testBit j = m2.testBit j) : Masks n m2 listed :=
  ⟨h.size, fun j hj => by rw [← e]; exact h.at_ j hj, fun j hj => h.lt j (by rw [e]; exact hj)⟩

theorem Masks.all {n : Nat} : ∀ (l : List It) (mask : Nat) (listed : Array Bool), Masks n mask listed → (∀ x ∈ l, x.k < n) → Masks n (bitsI l mask) (setAll listed l)
  | [], mask, listed, h, _ => h
  | x :: l, mask, listed, h, hl => by
    have := Masks.all l _ _ (h.set (hl x (List.mem_cons_self ..))) (fun y hy => hl y (List.mem_cons_of_mem _ hy))
    refine Masks.congr this fun j => ?_
    rw [Bool.eq_iff_iff, bitsI_bit, bitsI_bit, lor_bit]
    simp only [Bool.or_eq_true, decide_eq_true_eq, List.mem_cons, exists_eq_or_imp]
    constructor
    · rintro ((h | h) | h)
      · exact .inl h
      · exact .inr (.inl h)
      · exact .inr (.inr h)
    · rintro (h | h | h)
      · exact .inl (.inl h)
      · exact .inl (.inr h)
      · exact .inr h

section
variable {P : Program} {ops : Array Oper} {X : Fx} {is : List Inf}

/-- An item as it lies in the region. -/
structure Lies (P : Program) (ops : Array Oper) (is : List Inf) (it : It) : Prop where
  o : ops[it.k]? = some it.o
  a : is[it.k]? = some it.a
  ok : InfOk P ops ((is.take it.k).map Inf.bf) it.o it.a

theorem ready_of {mask : Nat} {listed : Array Bool} (hm : Masks ops.size mask listed) {x : It} (hx : Lies P ops is x) (h1 : subM x.a.em mask = true) (h2 : tb mask x.k = false) : x.k ∈ Region.ready .any ops listed := by
  have hk : x.k < ops.size := (Array.getElem?_eq_some_iff.1 hx.o).1
  refine mem_ready.2 ⟨?_, x.o, hx.o, fun e he hb => ?_⟩
  · rw [hm.get hk]
    cases e : mask.testBit x.k with
    | false => rfl
    | true =>
      exfalso
      have : tb mask x.k = true := by
        unfold tb
        have : Nat.land (Nat.shiftRight mask x.k) 1 = 1 := by
          show (mask >>> x.k) &&& 1 = 1
          rw [Nat.and_one_is_mod]
          rw [Nat.testBit, Nat.and_comm, Nat.and_one_is_mod] at e
          simpa using e
        rw [this]; rfl
      rw [this] at h2; cases h2
  · have h3 := (hx.ok.em e.on).2 ⟨e, he, hb, rfl⟩
    have h4 := subM_ok h1 _ h3
    rcases Nat.lt_or_ge e.on ops.size with h | h
    · rw [hm.get h]; exact h4
    · exact absurd (hm.lt _ h4) (by omega)

theorem ordB_ok {R : List It} (hbf : ∀ x, Lies P ops is x → X.M.getD x.k 0 = x.a.bf) : ∀ (l : List It) (mask : Nat) (listed : Array Bool), (∀ x ∈ l ++ R, Lies P ops is x ∧ (X.eff x.k = true ↔ 2 ≤ x.a.c)) →
    Masks ops.size mask listed → ordB R l mask = true → Ord X ops R l listed
  | [], _, _, _, _, _ => trivial
  | x :: tl, mask, listed, hl, hm, h => by
    have h : cond (subM x.a.em mask) (cond (tb mask x.k) false
      (cond (allT (fun y => cond (Nat.beq y.k x.k) false (cond (cond (tb y.a.em x.k) true (apartM x.a y.a)) (cond (Nat.ble 2 x.a.c) (cond (tb y.a.bf x.k) true (cond (Nat.ble 2 y.a.c) false (apartM x.a y.a))) true) false)) (appI tl R))
        (ordB R tl (Nat.lor mask (Nat.pow 2 x.k))) false)) false = true := h
    obtain ⟨h1, h⟩ := cond_t h
    obtain ⟨hx, hex⟩ := hl x (by simp)
    have hk : x.k < ops.size := (Array.getElem?_eq_some_iff.1 hx.o).1
    cases h2 : tb mask x.k with
    | true => rw [h2] at h; cases h
    | false =>
      rw [h2, cond_false] at h
      obtain ⟨h3, h4⟩ := cond_t h
      refine ⟨ready_of hm hx h1 h2, fun y hy => ?_, ordB_ok hbf tl _ _ (fun y hy => hl y (by rw [List.cons_append]; exact List.mem_cons_of_mem _ hy)) (hm.set hk) h4⟩
      have h5 := allT_ok h3 y (by rw [appI_eq]; exact hy)
      obtain ⟨hy', hey⟩ := hl y (by rw [List.cons_append]; exact List.mem_cons_of_mem _ hy)
      cases e1 : Nat.beq y.k x.k with
      | true => rw [e1] at h5; cases h5
      | false =>
        rw [e1, cond_false] at h5
        obtain ⟨h6, h7⟩ := cond_t h5
        refine ⟨beq_ne' e1, ?_, fun he => ?_⟩
        · cases e2 : tb y.a.em x.k with
          | true => exact .inl ((hy'.ok.em x.k).1 (tb_bit e2))
          | false => rw [e2, cond_false] at h6; exact .inr (apartM_ok hx.ok hy'.ok h6)
        · have hc : Nat.ble 2 x.a.c = true := by rw [Nat.ble_eq]; exact hex.1 he
          rw [hc, cond_true] at h7
          cases e2 : tb y.a.bf x.k with
          | true => exact .inl (by rw [hbf y hy']; exact tb_bit e2)
          | false =>
            rw [e2, cond_false] at h7
            cases e3 : Nat.ble 2 y.a.c with
            | true => rw [e3] at h7; cases h7
            | false =>
              rw [e3, cond_false] at h7
              refine .inr ⟨?_, apartM_ok hx.ok hy'.ok h7⟩
              cases e4 : X.eff y.k with
              | false => rfl
              | true => have := hey.1 e4; rw [← Nat.ble_eq, e3] at this; cases this

/-- What the check has shown. -/
structure FlOk (P : Program) (ops : Array Oper) (fl : Fl) (X : Fx) (listed : Array Bool) : Prop where
  sound : X.sound ops
  ls : LsOk X
  sel : ∀ (j : Nat) (o : Oper) cs b, ops[j]? = some o → o.op ≠ .select cs b
  val : ∀ x, x = fl.c ∨ x = fl.a ∨ x ∈ fl.p1 ∨ x ∈ fl.p3 → ops[x.k]? = some x.o ∧ x.o.guard = none ∧ x.a.c = opCls P x.o.op
  dc : fl.c.o.dst = some fl.dc
  da : fl.a.o.dst = some fl.da
  ne : fl.dc ≠ fl.da
  ec : X.eff fl.c.k = true
  ea : X.eff fl.a.k = true
  p1 : ∀ x ∈ fl.p1, X.eff x.k = false ∧ (x.a.c = 0 ∧ X.ls.contains x.k = false ∨ x.a.c = 1 ∧ X.ls.contains x.k = true)
  p3 : ∀ x ∈ fl.p3, (x.a.c = 0 ∧ X.eff x.k = false ∧ X.ls.contains x.k = false) ∨ (2 ≤ x.a.c ∧ X.eff x.k = true ∧ X.es.contains x.k = false)
  ord1 : Ord X ops (fl.c :: fl.a :: fl.p3) fl.p1 (Array.replicate ops.size false)
  mid : listed = setAll (Array.replicate ops.size false) fl.p1
  rc : fl.c.k ∈ Region.ready .any ops listed
  only : ∀ i ∈ Region.ready .any ops listed, i = fl.c.k ∨ i = fl.a.k
  ordA : Ord X ops [] (fl.a :: fl.p3) (listed.setIfInBounds fl.c.k true)
  ordC : Ord X ops [] (fl.c :: fl.p3) (listed.setIfInBounds fl.a.k true)
  cover : ∀ j, j < ops.size → ∃ x, (x = fl.c ∨ x = fl.a ∨ x ∈ fl.p1 ∨ x ∈ fl.p3) ∧ x.k = j
  len : ops.size = fl.p1.length + (fl.p3.length + 1 + 1)

end
end Go.Proofs.YtnllmelmmcapcaaGreatDoor.Ev
