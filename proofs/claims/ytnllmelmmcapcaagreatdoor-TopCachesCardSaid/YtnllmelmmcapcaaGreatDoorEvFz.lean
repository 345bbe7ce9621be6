/- A region that draws its order, walked in an order that is given as a list. -/
import Derived.Test.YtnllmelmmcapcaaGreatDoorEvQW
namespace Go.Proofs.YtnllmelmmcapcaaGreatDoor.Ev
open Go Go.RowKit
set_option linter.unusedVariables false

structure It where
  k : Nat
  o : Oper
  a : Inf

section
variable {P : Program} {ops : Array Oper} {C : World → Prop} {X : Fx}

def wpFxI (P : Program) (C : World → Prop) (X : Fx) (K : Act → World → Prop) : List It → Act → World → Prop
  | [], a, w => K a w
  | it :: l, a, w => if X.eff it.k = true then it.o.wp P a w (fun a' w' => (X.es.contains it.k = true → C w') ∧ wpFxI P C X K l a' w') (fun _ _ _ => False)
    else ∃ v, (∀ w', (X.ls.contains it.k = true → C w') → OReads P it.o a w' v) ∧ wpFxI P C X K l (a.put it.o.dst v) w

def setAll : Array Bool → List It → Array Bool
  | listed, [] => listed
  | listed, it :: l => setAll (listed.setIfInBounds it.k true) l

theorem setAll_size : ∀ (l : List It) (listed : Array Bool), (setAll listed l).size = listed.size
  | [], _ => rfl
  | it :: l, listed => by rw [setAll, setAll_size l]; simp

theorem setAll_true (l : List It) : ∀ (listed : Array Bool) (j : Nat), listed.getD j false = true → (setAll listed l).getD j false = true := by
  induction l with
  | nil => exact fun _ _ h => h
  | cons it l ih => exact fun listed j h => ih _ j (getD_set_true h)

theorem setAll_mem (l : List It) : ∀ (listed : Array Bool) (x : It), x ∈ l → x.k < listed.size → (setAll listed l).getD x.k false = true := by
  induction l with
  | nil => exact fun _ x h _ => by simp at h
  | cons it l ih =>
    intro listed x h hk
    rcases List.mem_cons.1 h with e | h
    · subst e
      refine setAll_true l _ _ ?_
      simp [hk]
    · exact ih _ x h (by simpa using hk)

theorem ready_nil {listed : Array Bool} (hs : listed.size = ops.size) (h : ∀ j, j < ops.size → listed.getD j false = true) : Region.ready .any ops listed = [] := by
  rw [List.eq_nil_iff_forall_not_mem]
  intro j hj
  obtain ⟨hun, o, ho, _⟩ := mem_ready.1 hj
  have hk := (Array.getElem?_eq_some_iff.1 ho).1
  have h1 := h j hk
  have hj' : listed[j]? = some (listed[j]'(by omega)) := Array.getElem?_eq_getElem _
  rw [Array.getD_eq_getD_getElem?, hj'] at h1 hun
  have h1 : listed[j]'(by omega) = true := h1
  have hun : listed[j]'(by omega) = false := hun
  rw [h1] at hun; cases hun

/-- What is asked of the order l, with R behind it. -/
def Ord (X : Fx) (ops : Array Oper) (R : List It) : List It → Array Bool → Prop
  | [], _ => True
  | it :: tl, listed => it.k ∈ Region.ready .any ops listed ∧ (∀ jt ∈ tl ++ R, jt.k ≠ it.k ∧ ((∃ e ∈ jt.o.after, Region.binds .any e = true ∧ e.on = it.k) ∨ it.o.apart ops jt.o = true) ∧
      (X.eff it.k = true → (X.M.getD jt.k 0).testBit it.k = true ∨ (X.eff jt.k = false ∧ it.o.apart ops jt.o = true))) ∧ Ord X ops R tl (listed.setIfInBounds it.k true)

theorem wpAnyF_ord {Q : Act → World → Prop} (hM : X.sound ops) (hL : LsOk X) (hsel : ∀ (j : Nat) (o : Oper) cs b, ops[j]? = some o → o.op ≠ .select cs b) {f : Nat} (R : List It) :
    ∀ (l : List It) (listed : Array Bool) (a : Act) (w : World), (∀ it ∈ l ++ R, ops[it.k]? = some it.o ∧ it.o.guard = none) → Ord X ops R l listed → listed.size = ops.size → Closed X listed → (NoEt X listed → C w) →
      (∀ j, j < ops.size → listed.getD j true = false → ∃ it ∈ l ++ R, it.k = j) →
      wpFxI P C X (fun a' w' => Closed X (setAll listed l) → (NoEt X (setAll listed l) → C w') → wpAnyF P ops C X Q f (setAll listed l) a' w') l a w → wpAnyF P ops C X Q (l.length + f) listed a w
  | [], listed, a, w, _, _, _, hc, hC, _, h => by
    rw [List.length_nil, Nat.zero_add]
    exact h hc hC
  | it :: tl, listed, a, w, hval, hord, hsz, hc, hC, hcov, h => by
    obtain ⟨hr, hfree, hord'⟩ := hord
    obtain ⟨hio, hgd⟩ := hval it (by simp)
    have hw : Region.wanted it.o (yielded ops a.tmps) = true := by simp [Region.wanted, hgd]
    have hkl : it.k < listed.size := by rw [hsz]; exact (Array.getElem?_eq_some_iff.1 hio).1
    have hcov' : ∀ j oj, ops[j]? = some oj → j ≠ it.k → listed.getD j true = false → ∃ jt ∈ tl ++ R, jt.k = j ∧ jt.o = oj := fun j oj hj hne hun => by
      obtain ⟨jt, hjt, rfl⟩ := hcov j (Array.getElem?_eq_some_iff.1 hj).1 hun
      rw [List.cons_append] at hjt
      rcases List.mem_cons.1 hjt with rfl | hjt
      · exact absurd rfl hne
      · have := (hval jt (by rw [List.cons_append]; exact List.mem_cons_of_mem _ hjt)).1
        rw [hj] at this; cases this
        exact ⟨jt, hjt, rfl, rfl⟩
    have hval' : ∀ jt ∈ tl ++ R, ops[jt.k]? = some jt.o ∧ jt.o.guard = none := fun jt hjt => hval jt (by rw [List.cons_append]; exact List.mem_cons_of_mem _ hjt)
    have hcov2 : ∀ j, j < ops.size → (listed.setIfInBounds it.k true).getD j true = false → ∃ jt ∈ tl ++ R, jt.k = j := fun j hj hun => by
      by_cases e : it.k = j
      · subst e
        simp [hkl] at hun
      · rw [getD_set_ne true e] at hun
        obtain ⟨jt, h1, h2, _⟩ := hcov' j _ (Array.getElem?_eq_getElem hj) (Ne.symm e) hun
        exact ⟨jt, h1, h2⟩
    have hlen : (it :: tl).length + f = (tl.length + f) + 1 := by simp; omega
    rw [hlen]
    unfold wpFxI at h
    by_cases he : X.eff it.k = true
    · rw [if_pos he] at h
      refine wpAnyF_eff hM hL hio he hsel (tl.length + f) listed a w hsz hc hC (fun j oj hj hne hun hno => ?_) hr hw ?_
      · obtain ⟨jt, hjt, rfl, rfl⟩ := hcov' j oj hj hne hun
        rcases (hfree jt hjt).2.2 he with h1 | h1
        · rw [hno] at h1; cases h1
        · exact h1
      · refine Oper.wp_mono (fun a' w' hk => ⟨hk.1, wpAnyF_ord hM hL hsel R tl _ a' w' hval' hord' (by simp [hsz]) (hc.add hM hr) (fun hn => ?_) hcov2 hk.2⟩) h
        unfold Fx.eff at he
        rcases Bool.or_eq_true _ _ ▸ he with he | he
        · exact hk.1 he
        · have := hn it.k he
          simp [hkl] at this
    · have he' : X.eff it.k = false := by simpa using he
      rw [if_neg he] at h
      obtain ⟨v, hv, h⟩ := h
      refine wpAnyF_read hio hsel (tl.length + f) listed a w (fun j oj hj hne hun hno => ?_) hr (Or.inl ⟨hw, he', hv⟩)
        (wpAnyF_ord hM hL hsel R tl _ _ w hval' hord' (by simp [hsz]) (hc.add hM hr) (fun hn => hC hn.of_add) hcov2 h)
      obtain ⟨jt, hjt, rfl, rfl⟩ := hcov' j oj hj hne hun
      rcases (hfree jt hjt).2.1 with ⟨e, he, hb, hon⟩ | h1
      · exact absurd hon (hno e he hb)
      · exact h1

/-- Two effects, either of which may come up. -/
theorem wpAnyF_pair {Q : Act → World → Prop} {f : Nat} {listed : Array Bool} {a : Act} {w : World} {x y : It} (hx : ops[x.k]? = some x.o ∧ x.o.guard = none) (hy : ops[y.k]? = some y.o ∧ y.o.guard = none)
    (hex : X.eff x.k = true) (hey : X.eff y.k = true) (hrx : x.k ∈ Region.ready .any ops listed) (hall : ∀ i ∈ Region.ready .any ops listed, i = x.k ∨ i = y.k)
    (h1 : x.o.wp P a w (fun a' w' => (X.es.contains x.k = true → C w') ∧ wpAnyF P ops C X Q f (listed.setIfInBounds x.k true) a' w') (fun _ _ _ => False))
    (h2 : y.k ∈ Region.ready .any ops listed → y.o.wp P a w (fun a' w' => (X.es.contains y.k = true → C w') ∧ wpAnyF P ops C X Q f (listed.setIfInBounds y.k true) a' w') (fun _ _ _ => False)) : wpAnyF P ops C X Q (f + 1) listed a w := by
  refine ⟨fun h => by rw [h] at hrx; simp at hrx, fun i hi => ?_⟩
  unfold fOp
  rcases hall i hi with rfl | rfl
  · simp only [hx.1, show Region.wanted x.o (yielded ops a.tmps) = true by simp [Region.wanted, hx.2], if_true, hex]; exact h1
  · simp only [hy.1, show Region.wanted y.o (yielded ops a.tmps) = true by simp [Region.wanted, hy.2], if_true, hey]; exact h2 hi
end
end Go.Proofs.YtnllmelmmcapcaaGreatDoor.Ev
namespace Go.Proofs.YtnllmelmmcapcaaGreatDoor.Ev
open Go Go.RowKit
set_option linter.unusedVariables false

noncomputable def zipI (l : List Oper) : Nat → List Inf → List It :=
  List.rec (motive := fun _ => Nat → List Inf → List It) (fun _ _ => []) (fun o _ ih k is => List.rec (motive := fun _ => List It) [] (fun a as _ => ⟨k, o, a⟩ :: ih (Nat.succ k) as) is) l
noncomputable def fstI (f : It → Bool) (l : List It) : Option It := List.rec (motive := fun _ => Option It) none (fun x _ ih => cond (f x) (some x) ih) l
noncomputable def filI (f : It → Bool) (l : List It) : List It := List.rec (motive := fun _ => List It) [] (fun x _ ih => cond (f x) (x :: ih) ih) l
noncomputable def allT (f : It → Bool) (l : List It) : Bool := List.rec (motive := fun _ => Bool) true (fun x _ ih => cond (f x) ih false) l
noncomputable def appI (a b : List It) : List It := List.rec (motive := fun _ => List It) b (fun x _ ih => x :: ih) a
noncomputable def bitsI (l : List It) (n : Nat) : Nat := List.rec (motive := fun _ => Nat) n (fun x _ ih => Nat.lor (Nat.pow 2 x.k) ih) l
noncomputable def subM (a b : Nat) : Bool := Nat.beq (Nat.land a b) a
noncomputable def noG (o : Oper) : Bool := match o.guard with | none => true | some _ => false

noncomputable def ordB (R : List It) (l : List It) : Nat → Bool :=
  List.rec (motive := fun _ => Nat → Bool) (fun _ => true) (fun x tl ih listed =>
    cond (subM x.a.em listed) (cond (tb listed x.k) false
      (cond (allT (fun y => cond (Nat.beq y.k x.k) false (cond (cond (tb y.a.em x.k) true (apartM x.a y.a)) (cond (Nat.ble 2 x.a.c) (cond (tb y.a.bf x.k) true (cond (Nat.ble 2 y.a.c) false (apartM x.a y.a))) true) false)) (appI tl R))
        (ih (Nat.lor listed (Nat.pow 2 x.k))) false)) false) l

structure Fl where
  c : It
  a : It
  p1 : List It
  p3 : List It
  dc : Nat
  da : Nat

noncomputable def inP1 (c a : Nat) (x : It) : Bool := cond (Nat.ble 2 x.a.c) false (cond (tb x.a.bf c) false (cond (tb x.a.bf a) false true))
noncomputable def inP3 (c a : Nat) (x : It) : Bool := cond (Nat.beq x.k c) false (cond (Nat.beq x.k a) false (cond (inP1 c a x) false true))

noncomputable def flB (n : Nat) (its : List It) (c a : It) (p1 p3 : List It) : Bool :=
  cond (allT (fun x => cond (noG x.o) (Nat.blt x.a.c 4) false) its)
  (cond (ordB (c :: a :: p3) p1 0)
  (cond (allT (fun y => cond (subM y.a.em (bitsI p1 0)) false (cond (Nat.beq y.a.c 1) false (cond (Nat.ble 2 y.a.c) (allT (fun x => cond (Nat.beq x.a.c 1) (tb y.a.bf x.k) true) p1) true))) p3)
  (cond (subM c.a.em (bitsI p1 0))
  (cond (tb (bitsI p1 0) c.k) false
  (cond (ordB [] (a :: p3) (Nat.lor (bitsI p1 0) (Nat.pow 2 c.k)))
  (cond (ordB [] (c :: p3) (Nat.lor (bitsI p1 0) (Nat.pow 2 a.k)))
  (cond (Nat.beq (bitsI (c :: a :: appI p1 p3) 0) (Nat.sub (Nat.pow 2 n) 1))
  (cond (Nat.beq (Nat.add (List.length p1) (Nat.succ (Nat.succ (List.length p3)))) n)
  (cond (Nat.beq c.k a.k) false true) false) false) false) false)) false) false) false) false

noncomputable def floatCls (P : Program) (ops : Array Oper) : Option Fl :=
  infL P ops ops.toList [] fun is =>
    match fstI (fun x => Nat.ble 2 x.a.c) (zipI ops.toList 0 is) with
    | some c => (match fstI (fun x => cond (Nat.ble 2 x.a.c) (cond (Nat.beq x.k c.k) false true) false) (zipI ops.toList 0 is) with
      | some a => (match c.o.dst, a.o.dst with
        | some dc, some da => cond (Nat.beq dc da) none (cond (flB (List.length ops.toList) (zipI ops.toList 0 is) c a (filI (inP1 c.k a.k) (zipI ops.toList 0 is)) (filI (inP3 c.k a.k) (zipI ops.toList 0 is)))
            (some ⟨c, a, filI (inP1 c.k a.k) (zipI ops.toList 0 is), filI (inP3 c.k a.k) (zipI ops.toList 0 is), dc, da⟩) none)
        | _, _ => none)
      | none => none)
    | none => none

theorem mem_zipI : ∀ (l : List Oper) (k : Nat) (is : List Inf) (it : It), it ∈ zipI l k is → ∃ j, it.k = k + j ∧ l[j]? = some it.o ∧ is[j]? = some it.a
  | [], k, is, it, h => by simp [zipI] at h
  | o :: l, k, [], it, h => by simp [zipI] at h
  | o :: l, k, a :: as, it, h => by
    have h : it ∈ (⟨k, o, a⟩ : It) :: zipI l (Nat.succ k) as := h
    rcases List.mem_cons.1 h with rfl | h
    · exact ⟨0, rfl, rfl, rfl⟩
    · obtain ⟨j, h1, h2, h3⟩ := mem_zipI l _ as it h
      exact ⟨j + 1, by omega, by simpa using h2, by simpa using h3⟩

theorem fstI_some {f : It → Bool} : ∀ {l : List It} {x : It}, fstI f l = some x → x ∈ l ∧ f x = true
  | [], x, h => by simp [fstI] at h
  | y :: l, x, h => by
    have h : cond (f y) (some y) (fstI f l) = some x := h
    cases hy : f y with
    | true => rw [hy] at h; cases h; exact ⟨List.mem_cons_self .., hy⟩
    | false => rw [hy] at h; obtain ⟨h1, h2⟩ := fstI_some h; exact ⟨List.mem_cons_of_mem _ h1, h2⟩

theorem mem_filI {f : It → Bool} : ∀ {l : List It} {x : It}, x ∈ filI f l ↔ x ∈ l ∧ f x = true
  | [], x => by simp [filI]
  | y :: l, x => by
    have e : filI f (y :: l) = cond (f y) (y :: filI f l) (filI f l) := rfl
    rw [e]
    cases hy : f y with
    | true =>
      rw [cond_true, List.mem_cons, mem_filI, List.mem_cons]
      constructor
      · rintro (rfl | ⟨h1, h2⟩)
        · exact ⟨.inl rfl, hy⟩
        · exact ⟨.inr h1, h2⟩
      · rintro ⟨rfl | h1, h2⟩
        · exact .inl rfl
        · exact .inr ⟨h1, h2⟩
    | false =>
      rw [cond_false, mem_filI, List.mem_cons]
      constructor
      · rintro ⟨h1, h2⟩; exact ⟨.inr h1, h2⟩
      · rintro ⟨rfl | h1, h2⟩
        · rw [hy] at h2; cases h2
        · exact ⟨h1, h2⟩

theorem allT_ok {f : It → Bool} : ∀ {l : List It}, allT f l = true → ∀ x ∈ l, f x = true
  | [], _, x, hx => by simp at hx
  | y :: l, h, x, hx => by
    have h : cond (f y) (allT f l) false = true := h
    obtain ⟨h1, h2⟩ := cond_t h
    rcases List.mem_cons.1 hx with rfl | hx
    · exact h1
    · exact allT_ok h2 x hx

theorem appI_eq (a b : List It) : appI a b = a ++ b := by
  induction a with
  | nil => rfl
  | cons x a ih => exact congrArg (x :: ·) ih

theorem bitsI_bit : ∀ (l : List It) (n k : Nat), (bitsI l n).testBit k = true ↔ n.testBit k = true ∨ ∃ x ∈ l, x.k = k
  | [], n, k => by simp [bitsI]
  | x :: l, n, k => by
    have e : bitsI (x :: l) n = Nat.lor (Nat.pow 2 x.k) (bitsI l n) := rfl
    rw [e]
    have : (2 ^ x.k ||| bitsI l n).testBit k = true ↔ x.k = k ∨ (bitsI l n).testBit k = true := by
      rw [Nat.testBit_or, Nat.testBit_two_pow]; simp
    refine this.trans ?_
    rw [bitsI_bit l n k]
    simp only [List.mem_cons, exists_eq_or_imp]
    constructor
    · rintro (h | h | h)
      · exact .inr (.inl h)
      · exact .inl h
      · exact .inr (.inr h)
    · rintro (h | h | h)
      · exact .inr (.inl h)
      · exact .inl h
      · exact .inr (.inr h)

theorem subM_ok {a b : Nat} (h : subM a b = true) (k : Nat) (hk : a.testBit k = true) : b.testBit k = true := by
  have h := beq_eq' h
  have h2 : (a &&& b).testBit k = true := by show (Nat.land a b).testBit k = true; rw [h]; exact hk
  rw [Nat.testBit_and, Bool.and_eq_true] at h2
  exact h2.2

/-- The mask tells what is listed. -/
structure Masks (n mask : Nat) (listed : Array Bool) : Prop where
  size : listed.size = n
  at_ : ∀ j, j < n → listed[j]? = some (mask.testBit j)
  lt : ∀ j, mask.testBit j = true → j < n

theorem lor_bit (mask k j : Nat) : (Nat.lor mask (Nat.pow 2 k)).testBit j = (mask.testBit j || decide (k = j)) := by
  show (mask ||| 2 ^ k).testBit j = _
  rw [Nat.testBit_or, Nat.testBit_two_pow]

theorem Masks.set {n mask k : Nat} {listed : Array Bool} (h : Masks n mask listed) (hk : k < n) : Masks n (Nat.lor mask (Nat.pow 2 k)) (listed.setIfInBounds k true) := by
  refine ⟨by simp [h.size], fun j hj => ?_, fun j hj => ?_⟩
  · rw [Array.getElem?_setIfInBounds, h.at_ j hj, lor_bit]
    by_cases e : k = j
    · subst e; simp [h.size, hj]
    · simp [e]
  · rw [lor_bit, Bool.or_eq_true] at hj
    rcases hj with hj | hj
    · exact h.lt j hj
    · have : k = j := by simpa using hj
      omega

theorem Masks.get {n mask : Nat} {listed : Array Bool} (h : Masks n mask listed) {j : Nat} (hj : j < n) (d : Bool) : listed.getD j d = mask.testBit j := by
  simp [Array.getD_eq_getD_getElem?, h.at_ j hj]

theorem Masks.congr {n m1 m2 : Nat} {listed : Array Bool} (h : Masks n m1 listed) (e : ∀ j, m1.testBit j = m2.testBit j) : Masks n m2 listed :=
  ⟨h.size, fun j hj => by rw [← e]; exact h.at_ j hj, fun j hj => h.lt j (by rw [e]; exact hj)⟩

theorem Masks.all {n : Nat} : ∀ (l : List It) (mask : Nat) (listed : Array Bool), Masks n mask listed → (∀ x ∈ l, x.k < n) → Masks n (bitsI l mask) (setAll listed l)
  | [], mask, listed, h, _ => h
  | x :: l, mask, listed, h, hl => by
    have := Masks.all l _ _ (h.set (hl x (List.mem_cons_self ..))) (fun y hy => hl y (List.mem_cons_of_mem _ hy))
    refine Masks.congr this fun j => ?_
    rw [Bool.eq_iff_iff, bitsI_bit, bitsI_bit, lor_bit]
    simp only [Bool.or_eq_true, decide_eq_true_eq, List.mem_cons, exists_eq_or_imp]
    constructor
    · rintro ((h | h) | h)
      · exact .inl h
      · exact .inr (.inl h)
      · exact .inr (.inr h)
    · rintro (h | h | h)
      · exact .inl (.inl h)
      · exact .inl (.inr h)
      · exact .inr h

section
variable {P : Program} {ops : Array Oper} {X : Fx} {is : List Inf}

/-- An item as it lies in the region. -/
structure Lies (P : Program) (ops : Array Oper) (is : List Inf) (it : It) : Prop where
  o : ops[it.k]? = some it.o
  a : is[it.k]? = some it.a
  ok : InfOk P ops ((is.take it.k).map Inf.bf) it.o it.a

theorem ready_of {mask : Nat} {listed : Array Bool} (hm : Masks ops.size mask listed) {x : It} (hx : Lies P ops is x) (h1 : subM x.a.em mask = true) (h2 : tb mask x.k = false) : x.k ∈ Region.ready .any ops listed := by
  have hk : x.k < ops.size := (Array.getElem?_eq_some_iff.1 hx.o).1
  refine mem_ready.2 ⟨?_, x.o, hx.o, fun e he hb => ?_⟩
  · rw [hm.get hk]
    cases e : mask.testBit x.k with
    | false => rfl
    | true =>
      exfalso
      have : tb mask x.k = true := by
        unfold tb
        have : Nat.land (Nat.shiftRight mask x.k) 1 = 1 := by
          show (mask >>> x.k) &&& 1 = 1
          rw [Nat.and_one_is_mod]
          rw [Nat.testBit, Nat.and_comm, Nat.and_one_is_mod] at e
          simpa using e
        rw [this]; rfl
      rw [this] at h2; cases h2
  · have h3 := (hx.ok.em e.on).2 ⟨e, he, hb, rfl⟩
    have h4 := subM_ok h1 _ h3
    rcases Nat.lt_or_ge e.on ops.size with h | h
    · rw [hm.get h]; exact h4
    · exact absurd (hm.lt _ h4) (by omega)

theorem ordB_ok {R : List It} (hbf : ∀ x, Lies P ops is x → X.M.getD x.k 0 = x.a.bf) : ∀ (l : List It) (mask : Nat) (listed : Array Bool), (∀ x ∈ l ++ R, Lies P ops is x ∧ (X.eff x.k = true ↔ 2 ≤ x.a.c)) →
    Masks ops.size mask listed → ordB R l mask = true → Ord X ops R l listed
  | [], _, _, _, _, _ => trivial
  | x :: tl, mask, listed, hl, hm, h => by
    have h : cond (subM x.a.em mask) (cond (tb mask x.k) false
      (cond (allT (fun y => cond (Nat.beq y.k x.k) false (cond (cond (tb y.a.em x.k) true (apartM x.a y.a)) (cond (Nat.ble 2 x.a.c) (cond (tb y.a.bf x.k) true (cond (Nat.ble 2 y.a.c) false (apartM x.a y.a))) true) false)) (appI tl R))
        (ordB R tl (Nat.lor mask (Nat.pow 2 x.k))) false)) false = true := h
    obtain ⟨h1, h⟩ := cond_t h
    obtain ⟨hx, hex⟩ := hl x (by simp)
    have hk : x.k < ops.size := (Array.getElem?_eq_some_iff.1 hx.o).1
    cases h2 : tb mask x.k with
    | true => rw [h2] at h; cases h
    | false =>
      rw [h2, cond_false] at h
      obtain ⟨h3, h4⟩ := cond_t h
      refine ⟨ready_of hm hx h1 h2, fun y hy => ?_, ordB_ok hbf tl _ _ (fun y hy => hl y (by rw [List.cons_append]; exact List.mem_cons_of_mem _ hy)) (hm.set hk) h4⟩
      have h5 := allT_ok h3 y (by rw [appI_eq]; exact hy)
      obtain ⟨hy', hey⟩ := hl y (by rw [List.cons_append]; exact List.mem_cons_of_mem _ hy)
      cases e1 : Nat.beq y.k x.k with
      | true => rw [e1] at h5; cases h5
      | false =>
        rw [e1, cond_false] at h5
        obtain ⟨h6, h7⟩ := cond_t h5
        refine ⟨beq_ne' e1, ?_, fun he => ?_⟩
        · cases e2 : tb y.a.em x.k with
          | true => exact .inl ((hy'.ok.em x.k).1 (tb_bit e2))
          | false => rw [e2, cond_false] at h6; exact .inr (apartM_ok hx.ok hy'.ok h6)
        · have hc : Nat.ble 2 x.a.c = true := by rw [Nat.ble_eq]; exact hex.1 he
          rw [hc, cond_true] at h7
          cases e2 : tb y.a.bf x.k with
          | true => exact .inl (by rw [hbf y hy']; exact tb_bit e2)
          | false =>
            rw [e2, cond_false] at h7
            cases e3 : Nat.ble 2 y.a.c with
            | true => rw [e3] at h7; cases h7
            | false =>
              rw [e3, cond_false] at h7
              refine .inr ⟨?_, apartM_ok hx.ok hy'.ok h7⟩
              cases e4 : X.eff y.k with
              | false => rfl
              | true => have := hey.1 e4; rw [← Nat.ble_eq, e3] at this; cases this

/-- What the check has shown. -/
structure FlOk (P : Program) (ops : Array Oper) (fl : Fl) (X : Fx) (listed : Array Bool) : Prop where
  sound : X.sound ops
  ls : LsOk X
  sel : ∀ (j : Nat) (o : Oper) cs b, ops[j]? = some o → o.op ≠ .select cs b
  val : ∀ x, x = fl.c ∨ x = fl.a ∨ x ∈ fl.p1 ∨ x ∈ fl.p3 → ops[x.k]? = some x.o ∧ x.o.guard = none ∧ x.a.c = opCls P x.o.op
  dc : fl.c.o.dst = some fl.dc
  da : fl.a.o.dst = some fl.da
  ne : fl.dc ≠ fl.da
  ec : X.eff fl.c.k = true
  ea : X.eff fl.a.k = true
  p1 : ∀ x ∈ fl.p1, X.eff x.k = false ∧ (x.a.c = 0 ∧ X.ls.contains x.k = false ∨ x.a.c = 1 ∧ X.ls.contains x.k = true)
  p3 : ∀ x ∈ fl.p3, (x.a.c = 0 ∧ X.eff x.k = false ∧ X.ls.contains x.k = false) ∨ (2 ≤ x.a.c ∧ X.eff x.k = true ∧ X.es.contains x.k = false)
  ord1 : Ord X ops (fl.c :: fl.a :: fl.p3) fl.p1 (Array.replicate ops.size false)
  mid : listed = setAll (Array.replicate ops.size false) fl.p1
  rc : fl.c.k ∈ Region.ready .any ops listed
  only : ∀ i ∈ Region.ready .any ops listed, i = fl.c.k ∨ i = fl.a.k
  ordA : Ord X ops [] (fl.a :: fl.p3) (listed.setIfInBounds fl.c.k true)
  ordC : Ord X ops [] (fl.c :: fl.p3) (listed.setIfInBounds fl.a.k true)
  cover : ∀ j, j < ops.size → ∃ x, (x = fl.c ∨ x = fl.a ∨ x ∈ fl.p1 ∨ x ∈ fl.p3) ∧ x.k = j
  len : ops.size = fl.p1.length + (fl.p3.length + 1 + 1)

end
end Go.Proofs.YtnllmelmmcapcaaGreatDoor.Ev
namespace Go.Proofs.YtnllmelmmcapcaaGreatDoor.Ev
open Go Go.RowKit
set_option linter.unusedVariables false

section
variable {P : Program} {ops : Array Oper}

theorem Lies.eq {is : List Inf} {x y : It} (hx : Lies P ops is x) (hy : Lies P ops is y) (h : x.k = y.k) : x = y := by
  obtain ⟨k, o, a⟩ := x
  obtain ⟨k', o', a'⟩ := y
  simp only at h
  subst h
  have h1 := hx.o
  have h2 := hy.o
  have h3 := hx.a
  have h4 := hy.a
  simp only at h1 h2 h3 h4
  rw [h1] at h2
  rw [h3] at h4
  cases h2; cases h4
  rfl

theorem sub_of {a b : Nat} (h : ∀ k, a.testBit k = true → b.testBit k = true) : subM a b = true := by
  unfold subM
  have : Nat.land a b = a := by
    show a &&& b = a
    apply Nat.eq_of_testBit_eq
    intro k
    rw [Nat.testBit_and]
    cases e : a.testBit k with
    | false => rfl
    | true => rw [h k e]; rfl
  rw [this]
  exact Nat.beq_refl a

theorem floatCls_ok {fl : Fl} (h : floatCls P ops = some fl) : ∃ X listed, FlOk P ops fl X listed := by
  unfold floatCls at h
  obtain ⟨is, h, hlen, hall⟩ := infL_ok _ _ h
  have hlen' : is.length = ops.size := by rw [hlen]; simp
  generalize hits : zipI ops.toList 0 is = its at h
  have lies : ∀ x ∈ its, Lies P ops is x := fun x hx => by
    rw [← hits] at hx
    obtain ⟨j, h1, h2, h3⟩ := mem_zipI _ _ _ _ hx
    rw [Nat.zero_add] at h1
    refine ⟨by rw [h1]; simpa using h2, by rw [h1]; exact h3, ?_⟩
    have := hall j x.o x.a h2 h3
    rw [h1]
    simpa using this
  split at h
  · rename_i c hc
    split at h
    · rename_i a ha
      split at h
      · rename_i dc da hdc hda
        obtain ⟨hc1, hc2⟩ := fstI_some hc
        obtain ⟨ha1, ha2⟩ := fstI_some ha
        cases hdd : Nat.beq dc da with
        | true => rw [hdd] at h; cases h
        | false =>
        rw [hdd, cond_false] at h
        obtain ⟨hB, h⟩ := cond_some h
        generalize hp1 : filI (inP1 c.k a.k) its = p1 at h hB
        generalize hp3 : filI (inP3 c.k a.k) its = p3 at h hB
        cases h
        unfold flB at hB
        obtain ⟨b1, hB⟩ := cond_t hB
        obtain ⟨b2, hB⟩ := cond_t hB
        obtain ⟨b3, hB⟩ := cond_t hB
        obtain ⟨b4, hB⟩ := cond_t hB
        have hB : cond (tb (bitsI p1 0) c.k) false
          (cond (ordB [] (a :: p3) (Nat.lor (bitsI p1 0) (Nat.pow 2 c.k)))
          (cond (ordB [] (c :: p3) (Nat.lor (bitsI p1 0) (Nat.pow 2 a.k)))
          (cond (Nat.beq (bitsI (c :: a :: appI p1 p3) 0) (Nat.sub (Nat.pow 2 (List.length ops.toList)) 1))
          (cond (Nat.beq (Nat.add (List.length p1) (Nat.succ (Nat.succ (List.length p3)))) (List.length ops.toList))
          (cond (Nat.beq c.k a.k) false true) false) false) false) false) = true := hB
        cases b5 : tb (bitsI p1 0) c.k with
        | true => rw [b5] at hB; cases hB
        | false =>
        rw [b5, cond_false] at hB
        obtain ⟨b6, hB⟩ := cond_t hB
        obtain ⟨b7, hB⟩ := cond_t hB
        obtain ⟨b8, hB⟩ := cond_t hB
        obtain ⟨b9, hB⟩ := cond_t hB
        have hca : c.k ≠ a.k := by
          cases e : Nat.beq c.k a.k with
          | true => rw [e] at hB; cases hB
          | false => exact beq_ne' e
        have m1 : ∀ x, x ∈ p1 ↔ x ∈ its ∧ inP1 c.k a.k x = true := fun x => by rw [← hp1]; exact mem_filI
        have m3 : ∀ x, x ∈ p3 ↔ x ∈ its ∧ inP3 c.k a.k x = true := fun x => by rw [← hp3]; exact mem_filI
        have c1 : ∀ x ∈ p1, x.a.c < 2 := fun x hx => by
          have := ((m1 x).1 hx).2
          unfold inP1 at this
          cases e : Nat.ble 2 x.a.c with
          | true => rw [e] at this; cases this
          | false =>
            rcases Nat.lt_or_ge x.a.c 2 with h | h
            · exact h
            · have h : 2 ≤ x.a.c := h
              rw [← Nat.ble_eq, e] at h; cases h
        have c3 : ∀ x ∈ p3, x.k ≠ c.k ∧ x.k ≠ a.k := fun x hx => by
          have := ((m3 x).1 hx).2
          unfold inP3 at this
          cases e : Nat.beq x.k c.k with
          | true => rw [e] at this; cases this
          | false =>
            rw [e, cond_false] at this
            cases e2 : Nat.beq x.k a.k with
            | true => rw [e2] at this; cases this
            | false => exact ⟨beq_ne' e, beq_ne' e2⟩
        have ca2 : 2 ≤ a.a.c := by
          cases e : Nat.ble 2 a.a.c with
          | true => exact ble_le e
          | false => rw [e] at ha2; cases ha2
        have cc2 : 2 ≤ c.a.c := ble_le hc2
        have inIts : ∀ x, x = c ∨ x = a ∨ x ∈ p1 ∨ x ∈ p3 → x ∈ its := by
          rintro x (rfl | rfl | hx | hx)
          · exact hc1
          · exact ha1
          · exact ((m1 x).1 hx).1
          · exact ((m3 x).1 hx).1
        generalize hX : (⟨[c.k, a.k], (p3.filter fun x => decide (2 ≤ x.a.c)).map It.k, (p1.filter fun x => decide (x.a.c = 1)).map It.k, (is.map Inf.bf).toArray⟩ : Fx) = X
        have es : ∀ k, X.es.contains k = true ↔ k = c.k ∨ k = a.k := fun k => by rw [← hX]; simp
        have et : ∀ k, X.et.contains k = true ↔ ∃ x ∈ p3, 2 ≤ x.a.c ∧ x.k = k := fun k => by
          rw [← hX]; simp [and_assoc]
        have ls : ∀ k, X.ls.contains k = true ↔ ∃ x ∈ p1, x.a.c = 1 ∧ x.k = k := fun k => by
          rw [← hX]; simp [and_assoc]
        have MM : ∀ (i : Nat) v, is[i]? = some v → X.M.getD i 0 = v.bf := fun i v hv => by
          rw [← hX]; simp [Array.getD_eq_getD_getElem?, hv]
        have hbf : ∀ x, Lies P ops is x → X.M.getD x.k 0 = x.a.bf := fun x hx => MM _ _ hx.a
        have eff : ∀ x ∈ its, (X.eff x.k = true ↔ 2 ≤ x.a.c) := fun x hx => by
          unfold Fx.eff
          rw [Bool.or_eq_true, es, et]
          constructor
          · rintro ((h | h) | ⟨y, hy, h1, h2⟩)
            · rw [(lies x hx).eq (lies c hc1) h]; exact cc2
            · rw [(lies x hx).eq (lies a ha1) h]; exact ca2
            · rw [(lies x hx).eq (lies y ((m3 y).1 hy).1) h2.symm]; exact h1
          · intro h
            by_cases e1 : x.k = c.k
            · exact .inl (.inl e1)
            by_cases e2 : x.k = a.k
            · exact .inl (.inr e2)
            refine .inr ⟨x, (m3 x).2 ⟨hx, ?_⟩, h, rfl⟩
            have n1 : Nat.beq x.k c.k = false := by cases e : Nat.beq x.k c.k with | true => exact absurd (beq_eq' e) e1 | false => rfl
            have n2 : Nat.beq x.k a.k = false := by cases e : Nat.beq x.k a.k with | true => exact absurd (beq_eq' e) e2 | false => rfl
            have n3 : Nat.ble 2 x.a.c = true := by rw [Nat.ble_eq]; exact h
            unfold inP3 inP1
            rw [n1, n2, n3]; rfl
        have hn : List.length ops.toList = ops.size := by simp
        rw [hn] at b8 b9
        have klt : ∀ x ∈ its, x.k < ops.size := fun x hx => (Array.getElem?_eq_some_iff.1 (lies x hx).o).1
        have M0 : Masks ops.size 0 (Array.replicate ops.size false) := ⟨by simp, fun j hj => by simp [hj], fun j hj => by simp at hj⟩
        have M1 := Masks.all p1 0 _ M0 (fun x hx => klt x (inIts x (.inr (.inr (.inl hx)))))
        have cover : ∀ j, j < ops.size → ∃ x, (x = c ∨ x = a ∨ x ∈ p1 ∨ x ∈ p3) ∧ x.k = j := fun j hj => by
          have e := beq_eq' b8
          have : (bitsI (c :: a :: appI p1 p3) 0).testBit j = true := by
            rw [e]
            show (2 ^ ops.size - 1).testBit j = true
            rw [Nat.testBit_two_pow_sub_one]; simpa using hj
          rw [bitsI_bit] at this
          rcases this with h | ⟨x, hx, hk⟩
          · simp at h
          · rw [appI_eq] at hx
            simp only [List.mem_cons, List.mem_append] at hx
            exact ⟨x, by rcases hx with h | h | h | h <;> simp [h], hk⟩
        have all1 : ∀ x ∈ its, x.o.guard = none ∧ x.a.c < 4 := fun x hx => by
          obtain ⟨g1, g2⟩ := cond_t (allT_ok b1 x hx)
          refine ⟨?_, blt_lt g2⟩
          unfold noG at g1
          split at g1
          · assumption
          · cases g1
        have chk3 : ∀ y ∈ p3, subM y.a.em (bitsI p1 0) = false ∧ y.a.c ≠ 1 ∧ (2 ≤ y.a.c → ∀ x ∈ p1, x.a.c = 1 → tb y.a.bf x.k = true) := fun y hy => by
          have h := allT_ok b3 y hy
          cases e1 : subM y.a.em (bitsI p1 0) with
          | true => rw [e1] at h; cases h
          | false =>
            rw [e1, cond_false] at h
            cases e2 : Nat.beq y.a.c 1 with
            | true => rw [e2] at h; cases h
            | false =>
              rw [e2, cond_false] at h
              refine ⟨rfl, beq_ne' e2, fun h2 x hx hx1 => ?_⟩
              have e3 : Nat.ble 2 y.a.c = true := by rw [Nat.ble_eq]; exact h2
              rw [e3, cond_true] at h
              have := allT_ok h x hx
              rw [hx1] at this
              exact this
        have lz : ∀ l : List It, (∀ x ∈ l, x = c ∨ x = a ∨ x ∈ p1 ∨ x ∈ p3) → ∀ x ∈ l, Lies P ops is x ∧ (X.eff x.k = true ↔ 2 ≤ x.a.c) := fun l hl x hx =>
          ⟨lies x (inIts x (hl x hx)), eff x (inIts x (hl x hx))⟩
        refine ⟨X, setAll (Array.replicate ops.size false) p1, ⟨?_, ?_, ?_, ?_, hdc, hda, beq_ne' hdd, (eff c hc1).2 cc2, (eff a ha1).2 ca2, ?_, ?_, ?_, rfl, ?_, ?_, ?_, ?_, cover, ?_⟩⟩
        · intro j oj hj k hk
          obtain ⟨x, hx, rfl⟩ := cover j (Array.getElem?_eq_some_iff.1 hj).1
          have hx' := lies x (inIts x hx)
          rw [hbf x hx'] at hk
          have hxo := hx'.o
          rw [hj] at hxo
          cases hxo
          obtain ⟨e, he, hb, h1⟩ := hx'.ok.bf k hk
          refine ⟨e, he, hb, h1.imp id fun h1 => ?_⟩
          rw [List.getD_eq_getElem?_getD, List.getElem?_map, List.getElem?_take] at h1
          split at h1
          · cases hv : is[e.on]? with
            | none => rw [hv] at h1; simp at h1
            | some v => rw [MM _ v hv]; rw [hv] at h1; simpa using h1
          · simp at h1
        · intro i e hi he
          obtain ⟨x, hx, hx1, rfl⟩ := (ls i).1 hi
          obtain ⟨y, hy, hy1, rfl⟩ := (et e).1 he
          rw [hbf y (lies y ((m3 y).1 hy).1)]
          exact tb_bit ((chk3 y hy).2.2 hy1 x hx hx1)
        · intro j o cs b hj hs
          obtain ⟨x, hx, rfl⟩ := cover j (Array.getElem?_eq_some_iff.1 hj).1
          have hx' := lies x (inIts x hx)
          have hxo := hx'.o
          rw [hj] at hxo
          cases hxo
          have h1 := (all1 x (inIts x hx)).2
          rw [hx'.ok.c, hs] at h1
          simp [opCls] at h1
        · intro x hx
          exact ⟨(lies x (inIts x hx)).o, (all1 x (inIts x hx)).1, (lies x (inIts x hx)).ok.c⟩
        · intro x hx
          have hxi := inIts x (.inr (.inr (.inl hx)))
          have hc := c1 x hx
          refine ⟨?_, ?_⟩
          · cases e : X.eff x.k with
            | false => rfl
            | true => have := (eff x hxi).1 e; omega
          · rcases Nat.lt_or_ge x.a.c 1 with h | h
            · refine .inl ⟨by omega, ?_⟩
              cases e : X.ls.contains x.k with
              | false => rfl
              | true =>
                obtain ⟨y, hy, hy1, hy2⟩ := (ls x.k).1 e
                rw [(lies y ((m1 y).1 hy).1).eq (lies x hxi) hy2] at hy1
                omega
            · have h1 : x.a.c = 1 := by omega
              exact .inr ⟨h1, (ls x.k).2 ⟨x, hx, h1, rfl⟩⟩
        · intro x hx
          have hxi := inIts x (.inr (.inr (.inr hx)))
          rcases Nat.lt_or_ge x.a.c 2 with h | h
          · have h0 : x.a.c = 0 := by have := (chk3 x hx).2.1; omega
            refine .inl ⟨h0, ?_, ?_⟩
            · cases e : X.eff x.k with
              | false => rfl
              | true => have := (eff x hxi).1 e; omega
            · cases e : X.ls.contains x.k with
              | false => rfl
              | true =>
                obtain ⟨y, hy, hy1, hy2⟩ := (ls x.k).1 e
                rw [(lies y ((m1 y).1 hy).1).eq (lies x hxi) hy2] at hy1
                omega
          · refine .inr ⟨h, (eff x hxi).2 h, ?_⟩
            cases e : X.es.contains x.k with
            | false => rfl
            | true =>
              rcases (es x.k).1 e with e | e
              · exact absurd e (c3 x hx).1
              · exact absurd e (c3 x hx).2
        · exact ordB_ok hbf p1 0 _ (lz _ (fun x hx => by simp only [List.mem_append, List.mem_cons] at hx; rcases hx with h | h | h | h <;> simp [h])) M0 b2
        · exact ready_of M1 (lies c hc1) b4 b5
        · intro i hi
          obtain ⟨hun, o, ho, hed⟩ := mem_ready.1 hi
          have hil := (Array.getElem?_eq_some_iff.1 ho).1
          obtain ⟨x, hx, rfl⟩ := cover i hil
          rcases hx with rfl | rfl | hx | hx
          · exact .inl rfl
          · exact .inr rfl
          · exfalso
            rw [M1.get hil] at hun
            have : (bitsI p1 0).testBit x.k = true := (bitsI_bit _ _ _).2 (.inr ⟨x, hx, rfl⟩)
            rw [this] at hun; cases hun
          · exfalso
            have hx' := lies x ((m3 x).1 hx).1
            have hxo := hx'.o
            rw [ho] at hxo
            cases hxo
            have h1 := (chk3 x hx).1
            rw [sub_of fun k hk => ?_] at h1
            · cases h1
            · obtain ⟨e, he, hb, rfl⟩ := (hx'.ok.em k).1 hk
              have h2 := hed e he hb
              rcases Nat.lt_or_ge e.on ops.size with h3 | h3
              · rw [M1.get h3] at h2; exact h2
              · have : (setAll (Array.replicate ops.size false) p1).size ≤ e.on := by rw [M1.size]; exact h3
                simp [Array.getD_eq_getD_getElem?, Array.getElem?_eq_none this] at h2
        · exact ordB_ok hbf (a :: p3) _ _ (lz _ (fun x hx => by simp only [List.append_nil, List.mem_cons] at hx; rcases hx with h | h <;> simp [h])) (M1.set (klt c hc1)) b6
        · exact ordB_ok hbf (c :: p3) _ _ (lz _ (fun x hx => by simp only [List.append_nil, List.mem_cons] at hx; rcases hx with h | h <;> simp [h])) (M1.set (klt a ha1)) b7
        · have := beq_eq' b9
          show ops.size = p1.length + (p3.length + 1 + 1)
          exact this.symm
      · cases h
    · cases h
  · cases h
end
end Go.Proofs.YtnllmelmmcapcaaGreatDoor.Ev
namespace Go.Proofs.YtnllmelmmcapcaaGreatDoor.Ev
open Go Go.RowKit
set_option linter.unusedVariables false

section
variable {R : Type} {P : Program} {G : Gl} {r : R}

theorem RepT.erase {ρ : Env} {n N d : Nat} {tm tm' : Tr AV} {a : Act} (h : RepT ρ n N tm a) (hg : ∀ m, tm'.get m = if m = d then none else tm.get m) : RepT ρ n N tm' a :=
  ⟨h.size, h.defers, fun t v hv => by
    rw [hg] at hv
    split at hv
    · cases hv
    · exact h.tmp t v hv⟩

theorem RepT.fresh {ρ : Env} {n N d : Nat} {tm : Tr AV} {a : Act} (h : RepT ρ n N tm a) (hd : tm.get d = none) (u : Value) : RepT ρ n N tm (a.put (some d) u) :=
  ⟨by simp [Act.put, h.size], by simp [Act.put, h.defers], fun t v hv => by
    have e : d ≠ t := fun e => by rw [e, hv] at hd; cases hd
    obtain ⟨h1, h2⟩ := h.tmp t v hv
    refine ⟨h1, ?_⟩
    simp only [Act.put, Array.getElem?_setIfInBounds]
    rw [if_neg e]; exact h2⟩

theorem RepT.set {ρ : Env} {n N d : Nat} {tm tm' : Tr AV} {a : Act} {v : AV} (h : RepT ρ n N tm a) (hv : v.lt n) (ht : a.tmps[d]? = some (conc ρ v)) (hg : ∀ m, tm'.get m = if m = d then some v else tm.get m) : RepT ρ n N tm' a :=
  ⟨h.size, h.defers, fun t u hu => by
    rw [hg] at hu
    by_cases e : t = d
    · rw [if_pos e] at hu; cases hu; exact ⟨hv, by rw [e]; exact ht⟩
    · rw [if_neg e] at hu; exact h.tmp t u hu⟩

/-! ### Frames -/

theorem byte_fr (ρ : Env) (f : Nat → Option Obj) : Env.byte { ρ with fr := f } = ρ.byte := by
  funext j
  match j with
  | 0 => rfl
  | 1 => rfl
  | 2 => rfl
  | 3 => rfl
  | 4 => rfl
  | j + 5 => rfl
theorem age_fr (ρ : Env) (f : Nat → Option Obj) : Env.age { ρ with fr := f } = ρ.age := by funext b; cases b <;> rfl

theorem conc_fr (ρ : Env) (f : Nat → Option Obj) : ∀ v : AV, conc { ρ with fr := f } v = conc ρ v := by
  have hy := byte_fr ρ f
  have hb : byteC { ρ with fr := f } = byteC ρ := by funext c; unfold byteC; rw [hy]
  have ha : ∀ b o, Env.addr { ρ with fr := f } b o = ρ.addr b o := fun _ _ => rfl
  intro v
  refine AV.rec (motive_1 := fun v => conc { ρ with fr := f } v = conc ρ v) (motive_2 := fun l => concs { ρ with fr := f } l = concs ρ l)
    (fun b => ?_) (fun k m => ?_) (fun j => ?_) (fun l => ?_) (fun b o => ?_) (fun g o => ?_) ?_ (fun b o len cap => ?_) (fun b i es len => ?_) (fun b i es l => ?_) ?_
    (fun f x c hx hc => ?_) ?_ (fun t v hv => ?_) ?_ (fun l hv => ?_) (fun l hv => ?_) (fun j => ?_) (fun b => ?_) ?_ (fun v l hv hl => ?_) v
  all_goals first
    | simp [conc, hb, hy, ha]; done
    | simp [conc, hx, hc]; done
    | simp [conc, hv]; done
    | simp [concs, hv, hl]; done
    | simp [concs]; done
    | simp [conc, Env.age]; done
    | rfl

theorem concs_fr (ρ : Env) (f : Nat → Option Obj) (l : List AV) : concs { ρ with fr := f } l = concs ρ l := by
  rw [concs_eq, concs_eq]
  exact List.map_congr_left fun v _ => conc_fr ρ f v

theorem RepT.fr {ρ : Env} {n N : Nat} {tm : Tr AV} {a : Act} (f : Nat → Option Obj) (h : RepT ρ n N tm a) : RepT { ρ with fr := f } n N tm a :=
  ⟨h.size, h.defers, fun t v hv => by
    obtain ⟨h1, h2⟩ := h.tmp t v hv
    exact ⟨h1, by rw [conc_fr]; exact h2⟩⟩

variable {ρ : Env} {H : Heap} {n : Nat} {w0 w : World}

theorem BlkOk.fr {b : Nat} {B : Blk} (f : Nat → Option Obj) (h : BlkOk ρ b B w) : BlkOk { ρ with fr := f } b B w := by
  obtain ⟨cs, lo, hi, r1, r2, r3, r4⟩ := h.row
  exact ⟨cs, lo, hi, r1, r2, fun i v hv => by rw [conc_fr]; exact r3 i v hv, r4⟩

theorem Rep.fr {f : Nat → Option Obj} (h : Rep ρ H n w0 w) (h1 : ∀ g o, f g = some o → w.heap[g]? = some o) (h2 : ∀ b B, H.get b = some B → f (ρ.blk b) = none) : Rep { ρ with fr := f } H n w0 w :=
  ⟨h.lt, h.old, h.cells, fun b B hb => (h.ok b B hb).fr f, h.inj, h.upd, h1, h2⟩

/-- A block more, of which nothing is told. -/
theorem Rep.besides (h : Rep ρ H n w0 w) (x : Obj) : Rep ρ H n w0 (w.alloc x) :=
  ⟨h.lt, h.old, h.cells, fun b B hb => by
    obtain ⟨cs, lo, hi, r1, r2⟩ := (h.ok b B hb).row
    exact ⟨cs, lo, hi, by rw [Below.heap_alloc _ _ _ (h.lt_heap hb)]; exact r1, r2⟩, h.inj, h.upd.alloc _, h.fr_alloc x, h.apart⟩

/-- A block more, kept outside. -/
theorem Rep.framed (h : Rep ρ H n w0 w) (x : Obj) : Rep { ρ with fr := fun g => if g = w.heap.size then some x else ρ.fr g } H n w0 (w.alloc x) := by
  refine (h.besides x).fr (fun g o hg => ?_) (fun b B hb => ?_)
  · by_cases e : g = w.heap.size
    · rw [if_pos e] at hg; cases hg; rw [e]; exact heap_alloc_new w x
    · rw [if_neg e] at hg; exact h.fr_alloc x g o hg
  · have := h.lt_heap hb
    rw [if_neg (by omega)]; exact h.apart b B hb

/-- What was kept outside is known as a block. -/
theorem Rep.taken {f : Nat → Option Obj} {H' : Heap} {g : Nat} {T : TypeId} {cells : List AV} {cs : Array Value} (h : Rep ρ H n w0 w) (hg : w0.heap.size ≤ g) (hx : ρ.fr g = some (.cells cs T))
    (h1 : ∀ g o, f g = some o → ρ.fr g = some o) (h2 : f g = none) (hH : ∀ m, H'.get m = if m = n then some ⟨T, 1, false, cells⟩ else H.get m) (hl : ∀ v ∈ cells, v.lt n) (hc : ∀ ρ, (concs ρ cells).toArray = cs) :
    ∃ ρ', Ext n { ρ with fr := f } ρ' ∧ ρ'.blk n = g ∧ ρ'.sh n = 0 ∧ Rep ρ' H' (n + 1) w0 w := by
  have hf : Rep { ρ with fr := f } H n w0 w := h.fr (fun g o hg => h.frame g o (h1 g o hg)) (fun b B hb => by
    cases e : f (ρ.blk b) with
    | none => rfl
    | some o => have := h.apart b B hb; rw [h1 _ _ e] at this; cases this)
  have hat := h.frame g _ hx
  obtain ⟨ρ', e1, e2, e3, _, e5⟩ := hf.add (w' := w) (B := ⟨T, 1, false, cells⟩) (g := g) (s := 0) (c := 0) hH hf.upd hg hf.frame h2
    (fun b B hb => ⟨(fun e => by have := h.apart b B hb; have e : ρ.blk b = g := e; rw [e, hx] at this; cases this), rfl⟩) hl
    ⟨cs, 0, 0, hat, .inl rfl, fun i v hv => by rw [Nat.zero_add, ← hc { ρ with fr := f }, List.getElem?_toArray, concs_get, hv]; rfl, (fun e => by cases e),
      fun _ => ⟨rfl, by rw [← hc { ρ with fr := f }, List.size_toArray, concs_length]⟩⟩
  exact ⟨ρ', e1, e2, e3, e5⟩

/-! ### A block that is made -/

def valAV (v : Option (Nat × Nat)) (n : Nat) : AV := match v with | none => .ptr n 0 | some (l, c) => .sl n 0 l c
def valV (v : Option (Nat × Nat)) (g : Nat) : Value := match v with | none => .pointer (some ⟨g, 0, none⟩) | some (l, c) => .slice (some ⟨g, 0, none⟩) l c

theorem valAV_conc {v : Option (Nat × Nat)} {n : Nat} {ρ : Env} {g : Nat} (h1 : ρ.blk n = g) (h2 : ρ.sh n = 0) : conc ρ (valAV v n) = valV v g := by
  cases v with
  | none => simp [valAV, valV, conc, Env.addr, h1, h2]
  | some p => simp [valAV, valV, conc, Env.addr, h1, h2]
theorem valAV_lt (v : Option (Nat × Nat)) (n : Nat) : (valAV v n).lt (n + 1) := by
  cases v with
  | none => simp [valAV, AV.lt]
  | some p => simp [valAV, AV.lt]

noncomputable def allocK (P : Program) (o : Oper) (tm : Tr AV) (k : TypeId → List AV → Option (Nat × Nat) → Option R) : Option R :=
  match o.op with
  | .alloc t => zeroOf P t fun z => cellsK z fun l => k t l none
  | .makeSlice t l c => opd l tm fun l => opd c tm fun c => (match l, c with
    | .int _ (.ofNat l), .int _ (.ofNat c) => cond (Nat.ble l c && Nat.blt c 100000) (und P t fun d => match d with
      | .slice e => smallK P e (szOf P e fun n => zeroOf P e fun z => cellsK z fun z => cond (Nat.beq (llen z) n) (lrepl z c fun z => k e z (some (l, c))) none)
      | _ => none) none
    | _, _ => none)
  | _ => none

/-- The operation makes a block of these cells. -/
def Makes (P : Program) (o : Oper) (tm : Tr AV) (T : TypeId) (cs : Array Value) (v : Option (Nat × Nat)) : Prop :=
  ∀ ρ n N a w, RepT ρ n N tm a → (execOp a.eval o).run P w = .ok (.value (valV v w.heap.size)) (w.alloc (.cells cs T))

theorem allocK_ok {o : Oper} {tm : Tr AV} {k : TypeId → List AV → Option (Nat × Nat) → Option R} (h : allocK P o tm k = some r) :
    ∃ T cells v cs, k T cells v = some r ∧ (∀ v ∈ cells, ∀ m, v.lt m) ∧ (∀ ρ, (concs ρ cells).toArray = cs) ∧ Makes P o tm T cs v := by
  unfold allocK at h
  split at h
  · rename_i t ho
    obtain ⟨i, z, av, hi, hz, h, hc⟩ := zeroOf_ok h
    obtain ⟨l, h, hl, hlt⟩ := cellsK_ok h
    have hcs : ∀ ρ, (concs ρ l).toArray = z.cells := fun ρ => by rw [← hl ρ, hc.1]
    refine ⟨t, l, none, z.cells, h, fun v hv m => (ltAll_iff _ _).1 (hlt m (hc.2 m)) v hv, hcs, fun ρ n N a w hT => ?_⟩
    simp [execOp, ho, Instr.alloc, run_zero hi hz, newVar, newRow, newObj, Sem.run, valV]
  · rename_i t l c ho
    obtain ⟨lv, h, hlv⟩ := opd_ok h
    obtain ⟨cv, h, hcv⟩ := opd_ok h
    have hk : ∃ kl ln kc cn, lv = .int kl (.ofNat ln) ∧ cv = .int kc (.ofNat cn) := by
      cases lv with
      | int kl ln => cases ln with
        | ofNat ln => cases cv with
          | int kc cn => cases cn with
            | ofNat cn => exact ⟨kl, ln, kc, cn, rfl, rfl⟩
            | negSucc m => cases h
          | _ => cases h
        | negSucc m => cases cv <;> cases h
      | _ => cases cv <;> cases h
    obtain ⟨kl, ln, kc, cn, rfl, rfl⟩ := hk
    · have h : cond (Nat.ble ln cn && Nat.blt cn 100000) (und P t fun d => match d with
        | .slice e => smallK P e (szOf P e fun n => zeroOf P e fun z => cellsK z fun z => cond (Nat.beq (llen z) n) (lrepl z cn fun z => k e z (some (ln, cn))) none)
        | _ => none) none = some r := h
      obtain ⟨hlc, h⟩ := cond_some h
      simp only [Bool.and_eq_true] at hlc
      have hle := ble_le hlc.1
      have hlt := blt_lt hlc.2
      obtain ⟨d, hd, h⟩ := und_ok h
      split at h
      · rename_i e
        obtain ⟨i, hi, hby, h⟩ := smallK_ok h
        obtain ⟨i2, hi2, h⟩ := szOf_ok h
        obtain rfl : i2 = i := by rw [hi] at hi2; cases hi2; rfl
        obtain ⟨i', zv, av, hi', hz, h, hc⟩ := zeroOf_ok h
        obtain rfl : i' = i2 := by rw [hi] at hi'; cases hi'; rfl
        obtain ⟨z, h, hzc, hzl⟩ := cellsK_ok h
        obtain ⟨hzn, h⟩ := cond_some h
        rw [lrepl_eq] at h
        have hzn' : z.length = i'.size := by rw [llen_eq] at hzn; exact Nat.eq_of_beq_eq_true hzn
        have hcells : ∀ ρ, zv.cells = (concs ρ z).toArray := fun ρ => by rw [← hc.1 ρ]; exact hzc ρ
        have hcs : ∀ ρ ρ', (concs ρ ((List.replicate cn z).flatten)).toArray = (concs ρ' ((List.replicate cn z).flatten)).toArray := fun ρ ρ' => by
          have : concs ρ z = concs ρ' z := by
            have h1 := hcells ρ
            rw [hcells ρ'] at h1
            simpa using h1.symm
          rw [concs_rep, concs_rep, this]
        refine ⟨_, _, _, (concs env0 ((List.replicate cn z).flatten)).toArray, h, fun v hv m => (ltAll_iff _ _).1 (ltAll_rep (hzl m (hc.2 m))) v hv, fun ρ => hcs ρ env0, fun ρ n N a w hT => ?_⟩
        rw [← hcs ρ env0]
        have hinit : (Array.range (cn * i'.size)).map (fun x => (concs ρ z).toArray[x % (concs ρ z).toArray.size]!) = (concs ρ ((List.replicate cn z).flatten)).toArray := by
          rw [concs_rep, ← rep_range, concs_length, hzn']
        have w1 : IntKind.i64.wrap (Int.ofNat ln) = (ln : Int) := i64_small (by omega)
        have w2 : IntKind.i64.wrap (Int.ofNat cn) = (cn : Int) := i64_small (by omega)
        have hmul : i'.bytes * cn ≤ 1000000 * 100000 := Nat.mul_le_mul (by omega) (by omega)
        have hb : ((i'.bytes : Int) * (cn : Int)) ≤ 100000000000 := by rw [← Int.natCast_mul]; omega
        have hb' : ¬ cn * i'.bytes > roomBytes := by rw [Nat.mul_comm]; unfold roomBytes; omega
        have hg : (decide ((cn : Int) < 0) || decide ((i'.bytes : Int) * (cn : Int) > 2 ^ 48) || decide ((ln : Int) < 0) || decide ((ln : Int) > (cn : Int))) = false := by
          simp; omega
        have q1 := (hlv ρ n N a hT).1
        have q2 := (hcv ρ n N a hT).1
        simp only [execOp, ho, q1, q2]
        refine run_v ?_
        simp only [Instr.makeSlice, Sem.run_bind, run_underlying hd, Result.andThen_ok, conc, asInt, asIntOf, Sem.run_pure, run_info hi, w1, w2, hg, Bool.false_eq_true, if_false, askRoom, Int.toNat_natCast, hb', run_size hi]
        by_cases h0 : cn * i'.size = 0
        · have hinit0 : (Array.range (cn * i'.size)).map (fun x => (#[] : Array Value)[x % (#[] : Array Value).size]!) = (concs ρ ((List.replicate cn z).flatten)).toArray := by
            rw [← hinit, h0]; simp
          rw [if_pos h0]
          simp only [Sem.run_bind, Sem.run_pure, Result.andThen_ok, hinit0]
          simp [newRow, newObj, Sem.run, valV]
        · simp only [h0, if_false, Sem.run_bind, run_zero hi hz, Result.andThen_ok, Sem.run_pure, hcells ρ, hinit]
          simp [newRow, newObj, Sem.run, valV]
      · cases h
  · cases h
end
end Go.Proofs.YtnllmelmmcapcaaGreatDoor.Ev
namespace Go.Proofs.YtnllmelmmcapcaaGreatDoor.Ev
open Go Go.RowKit
set_option linter.unusedVariables false

section
variable (P : Program) (G : Gl) {R : Type}

noncomputable def evP1 (ih : Ih R) (N n0 : Nat) (l : List It) : List Rd1 → Tr AV → Heap → Nat → (List Rd1 → Tr AV → Option R) → Option R :=
  List.rec (motive := fun _ => List Rd1 → Tr AV → Heap → Nat → (List Rd1 → Tr AV → Option R) → Option R) (fun Ls tm _ _ k => k Ls tm)
    (fun x _ next Ls tm H n k => cond (Nat.beq x.a.c 0) (evOp P G ih x.o tm H n fun v _ _ => putK N x.o.dst v tm fun tm => next Ls tm H n k)
      (match x.o.op with
      | .load t p => opd p tm fun a => cond (addrOk n0 a) (evLoad P G t a H fun v => putK N x.o.dst v tm fun tm => next ((t, a, v) :: Ls) tm H n k) none
      | _ => none)) l

noncomputable def evP3 (ih : Ih R) (N : Nat) (l : List It) : Tr AV → Heap → Nat → (Tr AV → Heap → Nat → Option R) → Option R :=
  List.rec (motive := fun _ => Tr AV → Heap → Nat → (Tr AV → Heap → Nat → Option R) → Option R) (fun tm H n k => k tm H n)
    (fun x _ next tm H n k => evOp P G ih x.o tm H n fun v H n => putK N x.o.dst v tm fun tm => next tm H n k) l

noncomputable def noTmp (tm : Tr AV) (d : Nat) (k : Option R) : Option R := tget tm d fun o => match o with | none => k | some _ => none

noncomputable def evFloat (ih : Ih R) (N : Nat) (fl : Fl) (tm : Tr AV) (H : Heap) (n : Nat) (k : Tr AV → Heap → Nat → Option R) : Option R :=
  cond (Nat.blt fl.dc N && Nat.blt fl.da N) (tset none 24 tm fl.dc fun tm => tset none 24 tm fl.da fun tm =>
    evP1 P G ih N n fl.p1 [] tm H n fun Ls tm => noTmp tm fl.dc (noTmp tm fl.da (
      allocK P fl.a.o tm fun T cells val => evOp P G ih fl.c.o tm H n fun vc H2 n2 => readsK P G H2 Ls (
        newK H2 n2 T 1 false cells fun H3 n3 => tset (some vc) 24 tm fl.dc fun tm => tset (some (valAV val n2)) 24 tm fl.da fun tm => evP3 P G ih N fl.p3 tm H3 n3 k)))) none

/-- A region that draws its order. -/
noncomputable def evDraw2 (ih : Ih R) : Ih R := fun N c tm H n k =>
  match c with
  | .region _ ops true => (match drawCls P ops fun cs => some cs with
    | some cs => evDr P G ih N ops.toList n ops.toList cs [] [] tm H n fun tm H n => k .normal tm H n
    | none => (match floatCls P ops with
      | some fl => evFloat P G ih N fl tm H n fun tm H n => k .normal tm H n
      | none => none))
  | _ => none
end

section
variable {R : Type} {P : Program} {G : Gl} {r : R}

theorem evP1_ok {ih : Ih R} {N n : Nat} {X : Fx} {H : Heap} :
    ∀ (l : List It), (∀ x ∈ l, x.a.c = opCls P x.o.op ∧ X.eff x.k = false ∧ (x.a.c = 0 ∧ X.ls.contains x.k = false ∨ x.a.c = 1 ∧ X.ls.contains x.k = true)) → ∀ {Ls : List Rd1} {tm : Tr AV} {k : List Rd1 → Tr AV → Option R}, evP1 P G ih N n l Ls tm H n k = some r →
      ∃ L tm', k L tm' = some r ∧ (∀ x ∈ Ls, x ∈ L) ∧ ((∀ x ∈ Ls, ReadsAt P G x H) → ∀ x ∈ L, ReadsAt P G x H) ∧
      ∀ ρ w0 a w, GlobOk G w0 → RepT ρ n N tm a → Rep ρ H n w0 w → ∀ K : Act → World → Prop, (∀ a', RepT ρ n N tm' a' → K a' w) → wpFxI P (InCls P G ρ n w0 L) X K l a w
  | [], _, Ls, tm, k, h => ⟨Ls, tm, h, fun x hx => hx, fun h => h, fun ρ w0 a w hG hT hR K hK => hK a hT⟩
  | x :: l, hl, Ls, tm, k, h => by
    have h : cond (Nat.beq x.a.c 0) (evOp P G ih x.o tm H n fun v _ _ => putK N x.o.dst v tm fun tm => evP1 P G ih N n l Ls tm H n k)
      (match x.o.op with
      | .load t p => opd p tm fun a => cond (addrOk n a) (evLoad P G t a H fun v => putK N x.o.dst v tm fun tm => evP1 P G ih N n l ((t, a, v) :: Ls) tm H n k) none
      | _ => none) = some r := h
    obtain ⟨hc, he, hcl⟩ := hl x (List.mem_cons_self ..)
    have hl' := fun y hy => hl y (List.mem_cons_of_mem _ hy)
    cases e0 : Nat.beq x.a.c 0 with
    | true =>
      rw [e0, cond_true] at h
      obtain ⟨v, h, hd⟩ := evPure_ok (by rw [← hc]; exact beq_eq' e0) h
      obtain ⟨tm1, h, hp⟩ := putK_ok h
      obtain ⟨L, tm', h, h1, h2, h3⟩ := evP1_ok l hl' h
      refine ⟨L, tm', h, h1, h2, fun ρ w0 a w hG hT hR K hK => ?_⟩
      unfold wpFxI
      rw [if_neg (by rw [he]; simp)]
      exact ⟨_, fun w' _ => hd.reads hT hR w', h3 ρ w0 _ w hG (hp ρ n a hT (hd ρ w0 N a w hT hR).1) hR K hK⟩
    | false =>
      rw [e0, cond_false] at h
      have hls : X.ls.contains x.k = true := by
        rcases hcl with ⟨h0, _⟩ | ⟨_, h1⟩
        · exact absurd h0 (beq_ne' e0)
        · exact h1
      split at h
      · rename_i t p ho
        obtain ⟨av, h, hv⟩ := opd_ok h
        obtain ⟨had, h⟩ := cond_some h
        obtain ⟨v, h, hld⟩ := evLoad_ok h
        obtain ⟨tm1, h, hp⟩ := putK_ok h
        obtain ⟨L, tm', h, h1, h2, h3⟩ := evP1_ok l hl' h
        have hlt0 : av.lt n := by
          unfold addrOk at had
          split at had
          · simpa [AV.lt] using blt_lt had
          · simp [AV.lt]
          · cases had
        have hmem := h1 (t, av, v) (List.mem_cons_self ..)
        refine ⟨L, tm', h, fun y hy => h1 y (List.mem_cons_of_mem _ hy), fun hLs => h2 fun y hy => ?_, fun ρ w0 a w hG hT hR K hK => ?_⟩
        · rcases List.mem_cons.1 hy with rfl | hy
          · exact hld
          · exact hLs y hy
        · have hvn : v.lt n := (hld ρ n w0 w hG hR).2
          unfold wpFxI
          rw [if_neg (by rw [he]; simp)]
          refine ⟨conc ρ v, fun w' hw' => ?_, h3 ρ w0 _ w hG (hp ρ n a hT hvn) hR K hK⟩
          obtain ⟨ρ2, H2, n2, g1, g2, g3, g4⟩ := hw' hls
          obtain ⟨q1, _⟩ := g4 _ hmem ρ2 n2 w0 w' hG g3
          have ea : conc ρ2 av = conc ρ av := conc_ext g1 av hlt0
          have ev : conc ρ2 v = conc ρ v := conc_ext g1 v hvn
          have q1 : (Instr.loadAt t (conc ρ2 av)).run P w' = .ok (conc ρ2 v) w' := q1
          rw [ea, ev] at q1
          unfold OReads
          have : (execOp a.eval x.o).run P w' = .ok (.value (conc ρ v)) w' := by
            simp only [execOp, ho, (hv ρ n N a hT).1]
            exact run_v q1
          rw [this]
          exact ⟨rfl, rfl⟩
      · cases h

theorem evP3_ok {ih : Ih R} {N : Nat} {X : Fx}
    (hop : ∀ (o : Oper) {tm : Tr AV} {H : Heap} {n : Nat} {k : AV → Heap → Nat → Option R} {r : R}, evOp P G ih o tm H n k = some r → ∃ v H' n', k v H' n' = some r ∧ OpDoes P G o tm H n v H' n') :
    ∀ (l : List It), (∀ x ∈ l, x.a.c = opCls P x.o.op ∧ ((x.a.c = 0 ∧ X.eff x.k = false ∧ X.ls.contains x.k = false) ∨ (2 ≤ x.a.c ∧ X.eff x.k = true ∧ X.es.contains x.k = false))) → ∀ {tm : Tr AV} {H : Heap} {n : Nat} {k : Tr AV → Heap → Nat → Option R}, evP3 P G ih N l tm H n k = some r →
      ∃ tm' H' n', k tm' H' n' = some r ∧ ∀ (C : World → Prop) ρ w0 a w, GlobOk G w0 → RepT ρ n N tm a → Rep ρ H n w0 w → ∀ K : Act → World → Prop,
        (∀ ρ' a' w', Ext n ρ ρ' → n ≤ n' → RepT ρ' n' N tm' a' → Rep ρ' H' n' w0 w' → K a' w') → wpFxI P C X K l a w
  | [], _, tm, H, n, k, h => ⟨tm, H, n, h, fun C ρ w0 a w hG hT hR K hK => hK ρ a w (Ext.refl _ _) (Nat.le_refl _) hT hR⟩
  | x :: l, hl, tm, H, n, k, h => by
    have h : (evOp P G ih x.o tm H n fun v H n => putK N x.o.dst v tm fun tm => evP3 P G ih N l tm H n k) = some r := h
    obtain ⟨hc, hcl⟩ := hl x (List.mem_cons_self ..)
    have hl' := fun y hy => hl y (List.mem_cons_of_mem _ hy)
    rcases hcl with ⟨h0, he, hls⟩ | ⟨h2, he, hes⟩
    · obtain ⟨v, h, hd⟩ := evPure_ok (by rw [← hc]; exact h0) h
      obtain ⟨tm1, h, hp⟩ := putK_ok h
      obtain ⟨tm', H', n', h, h3⟩ := evP3_ok hop l hl' h
      refine ⟨tm', H', n', h, fun C ρ w0 a w hG hT hR K hK => ?_⟩
      unfold wpFxI
      rw [if_neg (by rw [he]; simp)]
      exact ⟨_, fun w' _ => hd.reads hT hR w', h3 C ρ w0 _ w hG (hp ρ n a hT (hd ρ w0 N a w hT hR).1) hR K hK⟩
    · obtain ⟨v, H1, n1, h, hd⟩ := hop x.o h
      obtain ⟨tm1, h, hp⟩ := putK_ok h
      obtain ⟨tm', H', n', h, h3⟩ := evP3_ok hop l hl' h
      refine ⟨tm', H', n', h, fun C ρ w0 a w hG hT hR K hK => ?_⟩
      unfold wpFxI
      rw [if_pos he]
      refine Oper.wp_mono (fun a' w' hq => ?_) (hd ρ w0 N a w hG hT hR)
      obtain ⟨ρ1, e1, e2, e3, rfl, e5⟩ := hq
      exact ⟨(fun hh => by rw [hes] at hh; cases hh), h3 C ρ1 w0 _ w' hG (hp ρ1 n1 a (hT.mono e1 e2) e3) e5 K (fun ρ' a' w' f1 f2 f3 f4 => hK ρ' a' w' (e1.trans e2 f1) (by omega) f3 f4)⟩

theorem noTmp_ok {tm : Tr AV} {d : Nat} {k : Option R} (h : noTmp tm d k = some r) : tm.get d = none ∧ k = some r := by
  unfold noTmp at h
  rw [tget_eq] at h
  cases e : tm.get d with
  | none => rw [e] at h; exact ⟨rfl, h⟩
  | some v => rw [e] at h; cases h

theorem put_at {a : Act} {d : Nat} {u : Value} (hd : d < a.tmps.size) : (a.put (some d) u).tmps[d]? = some u := by simp [Act.put, hd]
theorem put_ne {a : Act} {d t : Nat} {u : Value} (hd : d ≠ t) : (a.put (some d) u).tmps[t]? = a.tmps[t]? := by
  simp only [Act.put, Array.getElem?_setIfInBounds]; rw [if_neg hd]

theorem evFloat_ok (hm : P.follows .mixedOrders = true) {ih : Ih R} (hop : ∀ (o : Oper) {tm : Tr AV} {H : Heap} {n : Nat} {k : AV → Heap → Nat → Option R} {r : R}, evOp P G ih o tm H n k = some r → ∃ v H' n', k v H' n' = some r ∧ OpDoes P G o tm H n v H' n')
    {ops : Array Oper} {fl : Fl} {X : Fx} {listed : Array Bool} (hf : FlOk P ops fl X listed) {id N : Nat} {tm : Tr AV} {H : Heap} {n : Nat} {k : Tr AV → Heap → Nat → Option R} (h : evFloat P G ih N fl tm H n k = some r) :
    ∃ tm' H' n', k tm' H' n' = some r ∧ CodeDoes P G N (.region id ops true) tm H n .normal tm' H' n' := by
  unfold evFloat at h
  obtain ⟨hN, h⟩ := cond_some h
  rw [Bool.and_eq_true] at hN
  have hdc := blt_lt hN.1
  have hda := blt_lt hN.2
  obtain ⟨tmA, h, gA⟩ := tset_some _ h
  obtain ⟨tmB, h, gB⟩ := tset_some _ h
  obtain ⟨L, tm1, h, _, hL, hp1⟩ := evP1_ok (X := X) fl.p1 (fun x hx => ⟨(hf.val x (.inr (.inr (.inl hx)))).2.2, hf.p1 x hx⟩) h
  have hL := hL (fun x hx => by simp at hx)
  obtain ⟨n1, h⟩ := noTmp_ok h
  obtain ⟨n2', h⟩ := noTmp_ok h
  obtain ⟨T, cells, val, cs, h, hcl, hcs, hmk⟩ := allocK_ok h
  obtain ⟨vc, H2, n2, h, hdC⟩ := hop fl.c.o h
  obtain ⟨h, hrd⟩ := readsK_ok h
  obtain ⟨H3, hH3, h⟩ := newK_some h
  obtain ⟨tm2, h, g2⟩ := tset_some _ h
  obtain ⟨tm3, h, g3⟩ := tset_some _ h
  obtain ⟨tm', H', n', h, hp3⟩ := evP3_ok (X := X) hop fl.p3 (fun x hx => ⟨(hf.val x (.inr (.inr (.inr hx)))).2.2, hf.p3 x hx⟩) h
  refine ⟨tm', H', n', h, fun ρ w0 a w hG hT hR => wp_region_any hm ?_⟩
  suffices hmain : ∀ w, Rep ρ H n w0 w → wpAny P .any ops (Left P w0 ρ n N .normal tm' H' n') ops.size (Array.replicate ops.size false) a w from hmain _ hR.drew
  clear hR
  intro w hR
  have hTB : RepT ρ n N tmB a := (hT.erase gA).erase gB
  have hC0 : ∀ w, Rep ρ H n w0 w → InCls P G ρ n w0 L w := fun w hR => ⟨ρ, H, n, Ext.refl _ _, Nat.le_refl _, hR, hL⟩
  -- the end
  have fin : ∀ (l : List It) (lst : Array Bool), lst.size = ops.size → (∀ j, j < ops.size → lst.getD j false = true ∨ ∃ x ∈ l, x.k = j) → Region.ready .any ops (setAll lst l) = [] := fun l lst hs hj => by
    refine ready_nil (by rw [setAll_size]; exact hs) fun j hj' => ?_
    rcases hj j hj' with h | ⟨x, hx, rfl⟩
    · exact setAll_true l _ _ h
    · exact setAll_mem l _ x hx (by omega)
  have hls : listed.size = ops.size := by rw [hf.mid, setAll_size]; simp
  have hl1 : ∀ x ∈ fl.p1, listed.getD x.k false = true := fun x hx => by
    rw [hf.mid]; exact setAll_mem _ _ x hx (by simpa using (Array.getElem?_eq_some_iff.1 (hf.val x (.inr (.inr (.inl hx)))).1).1)
  have hck : fl.c.k < ops.size := (Array.getElem?_eq_some_iff.1 (hf.val _ (.inl rfl)).1).1
  have hak : fl.a.k < ops.size := (Array.getElem?_eq_some_iff.1 (hf.val _ (.inr (.inl rfl))).1).1
  have covC : ∀ j, j < ops.size → (listed.setIfInBounds fl.a.k true).getD j false = true ∨ ∃ x ∈ fl.c :: fl.p3, x.k = j := fun j hj => by
    obtain ⟨x, hx, rfl⟩ := hf.cover j hj
    rcases hx with rfl | rfl | hx | hx
    · exact .inr ⟨_, List.mem_cons_self .., rfl⟩
    · exact .inl (by simp [hls, hak])
    · exact .inl (getD_set_true (hl1 x hx))
    · exact .inr ⟨x, List.mem_cons_of_mem _ hx, rfl⟩
  have covA : ∀ j, j < ops.size → (listed.setIfInBounds fl.c.k true).getD j false = true ∨ ∃ x ∈ fl.a :: fl.p3, x.k = j := fun j hj => by
    obtain ⟨x, hx, rfl⟩ := hf.cover j hj
    rcases hx with rfl | rfl | hx | hx
    · exact .inl (by simp [hls, hck])
    · exact .inr ⟨_, List.mem_cons_self .., rfl⟩
    · exact .inl (getD_set_true (hl1 x hx))
    · exact .inr ⟨x, List.mem_cons_of_mem _ hx, rfl⟩
  have unl : ∀ {l : List It} {lst : Array Bool}, lst.size = ops.size → (∀ j, j < ops.size → lst.getD j false = true ∨ ∃ x ∈ l, x.k = j) → ∀ j, j < ops.size → lst.getD j true = false → ∃ x ∈ l ++ [], x.k = j := fun {l lst} hs hc j hj hu => by
    rw [List.append_nil]
    rcases hc j hj with h | h
    · have hj' : lst[j]? = some (lst[j]'(by omega)) := Array.getElem?_eq_getElem _
      rw [Array.getD_eq_getD_getElem?, hj'] at h hu
      have h : lst[j]'(by omega) = true := h
      have hu : lst[j]'(by omega) = false := hu
      rw [h] at hu; cases hu
    · exact h
  have val2 : ∀ x, x = fl.c ∨ x = fl.a ∨ x ∈ fl.p1 ∨ x ∈ fl.p3 → ops[x.k]? = some x.o ∧ x.o.guard = none := fun x hx => ⟨(hf.val x hx).1, (hf.val x hx).2.1⟩
  -- what is behind both
  have tail : ∀ (lst : Array Bool) ρ3 a3 w3, RepT ρ3 (n2 + 1) N tm3 a3 → Rep ρ3 H3 (n2 + 1) w0 w3 → Ext n ρ ρ3 → n ≤ n2 → Region.ready .any ops (setAll lst fl.p3) = [] →
      wpFxI P (InCls P G ρ n w0 L) X (fun a' w' => Closed X (setAll lst fl.p3) → (NoEt X (setAll lst fl.p3) → InCls P G ρ n w0 L w') → wpAnyF P ops (InCls P G ρ n w0 L) X (fun a' w' => Left P w0 ρ n N .normal tm' H' n' .normal a' w') 0 (setAll lst fl.p3) a' w') fl.p3 a3 w3 :=
    fun lst ρ3 a3 w3 hT3 hR3 hE hle hnil => hp3 _ ρ3 w0 a3 w3 hG hT3 hR3 _ fun ρ' a' w' e1 e2 e3 e4 _ _ => ⟨hnil, rfl, ρ', hE.trans (by omega) e1, by omega, e3, e4⟩
  have size2 : ∀ {x : It} {a1 : Act} {u : Value}, (a1.put (some fl.dc) u).tmps.size = a1.tmps.size := by intros; simp [Act.put]
  have goal : wpAnyF P ops (InCls P G ρ n w0 L) X (fun a' w' => Left P w0 ρ n N .normal tm' H' n' .normal a' w') ops.size (Array.replicate ops.size false) a w := by
    have hcl0 : Closed X (Array.replicate ops.size false) := fun j k hj _ => by rw [getD_replicate_false] at hj; cases hj
    rw [hf.len]
    rw [← hf.len]
    have hgo := wpAnyF_ord (P := P) (C := InCls P G ρ n w0 L) (Q := fun a' w' => Left P w0 ρ n N .normal tm' H' n' .normal a' w') hf.sound hf.ls hf.sel (f := fl.p3.length + 1 + 1) (fl.c :: fl.a :: fl.p3) fl.p1 (Array.replicate ops.size false) a w
      (fun x hx => val2 x (by simp only [List.mem_append, List.mem_cons] at hx; rcases hx with h | h | h | h <;> simp [h])) hf.ord1 (by simp) hcl0 (fun _ => hC0 w hR)
      (fun j hj _ => by
        obtain ⟨x, hx, hk⟩ := hf.cover j hj
        exact ⟨x, by simp only [List.mem_append, List.mem_cons]; rcases hx with h | h | h | h <;> simp [h], hk⟩)
      (hp1 ρ w0 a w hG hTB hR _ fun a1 hT1 hcl1 hCw => ?_)
    · rw [← hf.len] at hgo; exact hgo
    · rw [← hf.mid] at hcl1 hCw ⊢
      refine wpAnyF_pair (f := fl.p3.length + 1) (val2 _ (.inl rfl)) (val2 _ (.inr (.inl rfl))) hf.ec hf.ea hf.rc hf.only ?_ fun hra => ?_
      · -- the call first
        refine Oper.wp_mono (fun a2 w2 hq => ?_) (hdC ρ w0 N a1 w hG hT1 hR)
        obtain ⟨ρ2, e1, e2, e3, rfl, e5⟩ := hq
        have hC2 : InCls P G ρ n w0 L w2 := ⟨ρ2, H2, n2, e1, e2, e5, hrd⟩
        refine ⟨fun _ => hC2, ?_⟩
        have hlen : fl.p3.length + 1 = (fl.a :: fl.p3).length + 0 := by simp
        rw [hlen]
        have hT2 : RepT ρ2 n2 N tm1 (a1.put fl.c.o.dst (conc ρ2 vc)) := by rw [hf.dc]; exact (hT1.mono e1 e2).fresh n1 _
        refine wpAnyF_ord (P := P) hf.sound hf.ls hf.sel [] (fl.a :: fl.p3) _ _ w2 (fun x hx => val2 x (by simp only [List.append_nil, List.mem_cons] at hx; rcases hx with h | h <;> simp [h])) hf.ordA (by simp [hls]) (hcl1.add hf.sound hf.rc) (fun _ => hC2)
          (unl (by simp [hls]) covA) ?_
        unfold wpFxI
        rw [if_pos hf.ea]
        unfold Oper.wp
        have hrun := hmk ρ2 n2 N _ w2 hT2
        refine upon_false hrun ⟨fun _ => ⟨ρ2, H2, n2, e1, e2, e5.besides _, hrd⟩, ?_⟩
        obtain ⟨ρ3, f1, f2, f3, _, f5⟩ := e5.new (T := T) (es := 1) (c := 0) (opn := false) (cells := cells) (cs := cs) hH3 (fun v hv => hcl v hv _) (fun i v hv => by rw [← hcs ρ2, List.getElem?_toArray, concs_get, hv]; rfl) (fun e => by cases e) (fun _ => by rw [← hcs ρ2, List.size_toArray, concs_length])
        refine tail _ ρ3 _ _ ?_ f5 (e1.trans e2 f1) e2 (fin (fl.a :: fl.p3) _ (by simp [hls]) covA)
        rw [hf.da]
        have hT3 : RepT ρ3 (n2 + 1) N tm1 ((a1.put fl.c.o.dst (conc ρ2 vc)).put (some fl.da) (valV val w2.heap.size)) := ((hT2.mono f1 (by omega)).fresh n2' _)
        have hs1 : a1.tmps.size = N := hT1.size
        refine (hT3.set (d := fl.dc) (AV.lt_mono (by omega) vc e3) ?_ g2).set (valAV_lt val n2) ?_ g3
        · rw [put_ne (Ne.symm hf.ne), hf.dc, put_at (by rw [hs1]; exact hdc), conc_ext f1 vc e3]
        · rw [put_at (by rw [hf.dc]; simp [Act.put, hs1, hda]), valAV_conc f2 f3]
      · -- the block first
        have hrun := hmk ρ n N a1 w hT1
        unfold Oper.wp
        have hCA : InCls P G ρ n w0 L (w.alloc (.cells cs T)) := hC0 _ (hR.besides _)
        refine upon_false hrun ⟨fun _ => hCA, ?_⟩
        have hlen : fl.p3.length + 1 = (fl.c :: fl.p3).length + 0 := by simp
        rw [hlen]
        refine wpAnyF_ord (P := P) hf.sound hf.ls hf.sel [] (fl.c :: fl.p3) _ _ _ (fun x hx => val2 x (by simp only [List.append_nil, List.mem_cons] at hx; rcases hx with h | h <;> simp [h])) hf.ordC (by simp [hls]) (hcl1.add hf.sound hra) (fun _ => hCA)
          (unl (by simp [hls]) covC) ?_
        unfold wpFxI
        rw [if_pos hf.ec]
        have hRf := hR.framed (.cells cs T)
        generalize hfr : (fun g => if g = w.heap.size then some (Obj.cells cs T) else ρ.fr g) = f at hRf
        have hTA : RepT { ρ with fr := f } n N tm1 (a1.put fl.a.o.dst (valV val w.heap.size)) := by rw [hf.da]; exact (hT1.fr f).fresh n2' _
        refine Oper.wp_mono (fun a2 w2 hq => ?_) (hdC _ w0 N _ _ hG hTA hRf)
        obtain ⟨ρ2, e1, e2, e3, rfl, e5⟩ := hq
        have hfr2 : ρ2.fr = f := e1.fr
        have hg : ρ2.fr w.heap.size = some (.cells cs T) := by rw [hfr2, ← hfr]; simp
        have hsub : ∀ g o, ρ.fr g = some o → ρ2.fr g = some o := fun g o ho => by
          rw [hfr2, ← hfr]
          have hne : g ≠ w.heap.size := fun e => by rw [e, hR.fr_new] at ho; cases ho
          simp [hne, ho]
        obtain ⟨ρ3, f1, f2, f3, f5⟩ := e5.taken (f := ρ.fr) hR.upd.size hg hsub hR.fr_new hH3 (fun v hv => hcl v hv _) hcs
        have hE2 : Ext n ρ { ρ2 with fr := ρ.fr } := ⟨e1.blk, e1.sh, e1.cap, (byte_fr ρ2 _).trans (e1.byte.trans (byte_fr ρ _)), (age_fr ρ2 _).trans (e1.age.trans (age_fr ρ _)), e1.any, rfl⟩
        have hR2 : Rep { ρ2 with fr := ρ.fr } H2 n2 w0 w2 := e5.fr (fun g o ho => e5.frame g o (hsub g o ho)) (fun b B hb => by
          cases e : ρ.fr (ρ2.blk b) with
          | none => rfl
          | some o => have := e5.apart b B hb; rw [hsub _ _ e] at this; cases this)
        refine ⟨fun _ => ⟨_, H2, n2, hE2, e2, hR2, hrd⟩, ?_⟩
        refine tail _ ρ3 _ _ ?_ f5 (hE2.trans e2 f1) e2 (fin (fl.c :: fl.p3) _ (by simp [hls]) covC)
        have hs1 : a1.tmps.size = N := hT1.size
        have hT2 : RepT ρ3 (n2 + 1) N tm1 ((a1.put fl.a.o.dst (valV val w.heap.size)).put fl.c.o.dst (conc ρ2 vc)) := by
          have h1 : RepT ρ n N tm1 ((a1.put (some fl.da) (valV val w.heap.size)).put (some fl.dc) (conc ρ2 vc)) := (hT1.fresh n2' _).fresh n1 _
          rw [hf.da, hf.dc]
          exact h1.mono (hE2.trans e2 f1) (by omega)
        have hcv : conc ρ3 vc = conc ρ2 vc := by rw [conc_ext f1 vc e3, conc_fr]
        refine (hT2.set (d := fl.dc) (AV.lt_mono (by omega) vc e3) ?_ g2).set (valAV_lt val n2) ?_ g3
        · rw [hf.dc, put_at (by rw [hf.da]; simp [Act.put, hs1, hdc]), hcv]
        · rw [hf.dc, put_ne hf.ne, hf.da, put_at (by rw [hs1]; exact hda), valAV_conc f2 f3]
  have h2 := wpAny_of_F (Q' := Left P w0 ρ n N .normal tm' H' n') hf.sound hf.ls (fun _ _ h => h) ops.size (Array.replicate ops.size false) a w (by simp)
    (fun j k hj _ => by rw [getD_replicate_false] at hj; cases hj) (fun _ => hC0 w hR) goal
  exact h2

theorem evDraw2_ok (hm : P.follows .mixedOrders = true) (hN : NoCount P G) {ih : Ih R} (hih : IhOk P G ih) : IhOk P G (evDraw2 P G ih) := by
  intro N c tm H n k r h
  cases c with
  | region id ops draw =>
    cases draw with
    | false => cases h
    | true =>
      cases hd : (drawCls P ops fun cs => some cs) with
      | some cs =>
        refine evDraw_ok hm hN hih (N := N) (c := .region id ops true) (tm := tm) (H := H) (n := n) (k := k) (r := r) ?_
        have h : (match drawCls P ops fun cs => some cs with
          | some cs => evDr P G ih N ops.toList n ops.toList cs [] [] tm H n fun tm H n => k .normal tm H n
          | none => (match floatCls P ops with
            | some fl => evFloat P G ih N fl tm H n fun tm H n => k .normal tm H n
            | none => none)) = some r := h
        show (match drawCls P ops fun cs => some cs with
          | some cs => evDr P G ih N ops.toList n ops.toList cs [] [] tm H n fun tm H n => k .normal tm H n
          | none => none) = some r
        rw [hd] at h ⊢
        exact h
      | none =>
        have h : (match drawCls P ops fun cs => some cs with
          | some cs => evDr P G ih N ops.toList n ops.toList cs [] [] tm H n fun tm H n => k .normal tm H n
          | none => (match floatCls P ops with
            | some fl => evFloat P G ih N fl tm H n fun tm H n => k .normal tm H n
            | none => none)) = some r := h
        rw [hd] at h
        simp only at h
        split at h
        · rename_i fl hfl
          obtain ⟨X, listed, hf⟩ := floatCls_ok hfl
          obtain ⟨tm', H', n', h, hdo⟩ := evFloat_ok hm (fun o {tm H n k r} h => evOp_ok (fun c ho {k r} h => evCallOp_ok hN hih ho h) h) hf (id := id) h
          exact ⟨_, _, _, _, h, trivial, hdo⟩
        · cases h
  | _ => cases h
end
end Go.Proofs.YtnllmelmmcapcaaGreatDoor.Ev
