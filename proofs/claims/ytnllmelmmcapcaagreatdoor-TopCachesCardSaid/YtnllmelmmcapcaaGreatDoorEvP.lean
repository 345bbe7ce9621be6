/- The evaluator's loops, told in plain words. -/
import Derived.Test.YtnllmelmmcapcaaGreatDoorEvD
namespace Go.Proofs.YtnllmelmmcapcaaGreatDoor.Ev
open Go
set_option linter.unusedVariables false

section
variable {α β R : Type}

theorem natK_eq (n : Nat) (k : Nat → Option R) : natK n k = k n := rfl
theorem intK_eq (x : Int) (k : Int → Option R) : intK x k = k x := by cases x <;> rfl
theorem boolK_eq (x : Bool) (k : Bool → Option R) : boolK x k = k x := by cases x <;> rfl

theorem lget_eq (l : List α) (i : Nat) (k : α → Option R) : lget l i k = l[i]?.bind k := by
  induction l generalizing i with
  | nil => rfl
  | cons x l ih => cases i with
    | zero => rfl
    | succ i => exact ih i

theorem lapp_eq (r l : List α) (k : List α → Option R) : lapp r l k = k (l ++ r) := by
  induction l generalizing k with
  | nil => rfl
  | cons x l ih => exact ih _

theorem ltake_eq (l : List α) (n : Nat) (k : List α → Option R) : ltake l n k = if n ≤ l.length then k (l.take n) else none := by
  induction l generalizing n k with
  | nil => cases n with
    | zero => rfl
    | succ n => rfl
  | cons x l ih => cases n with
    | zero => rfl
    | succ n => exact (ih n _).trans (by simp)

theorem ldrop_eq (l : List α) (n : Nat) (k : List α → Option R) : ldrop l n k = if n ≤ l.length then k (l.drop n) else none := by
  induction l generalizing n with
  | nil => cases n with
    | zero => rfl
    | succ n => rfl
  | cons x l ih => cases n with
    | zero => rfl
    | succ n => exact (ih n).trans (by simp)

theorem llen_eq (l : List α) : llen l = l.length := by
  induction l with
  | nil => rfl
  | cons x l ih => exact congrArg Nat.succ ih

/-- r laid over l from place o on. -/
def splice (l : List α) (o : Nat) (r : List α) : List α := l.take o ++ r ++ l.drop (o + r.length)

theorem lput_eq (r l : List α) (o : Nat) (k : List α → Option R) : lput r l o k = if o + r.length ≤ l.length then k (splice l o r) else none := by
  unfold lput
  simp only [ltake_eq, ldrop_eq, natK_eq, lapp_eq, List.length_drop]
  by_cases h1 : o ≤ l.length
  · simp only [h1, if_true]
    by_cases h2 : o + r.length ≤ l.length
    · have h3 : r.length ≤ l.length - o := by omega
      simp only [h2, h3, if_true, List.drop_drop, splice, List.append_assoc]
    · have h3 : ¬ r.length ≤ l.length - o := by omega
      simp only [h2, h3, if_false]
  · have h2 : ¬ o + r.length ≤ l.length := by omega
    simp only [h1, h2, if_false]

theorem splice_get (l r : List α) (o i : Nat) (h : o + r.length ≤ l.length) : (splice l o r)[i]? = if o ≤ i ∧ i < o + r.length then r[i - o]? else l[i]? := by
  unfold splice
  rw [List.append_assoc, List.getElem?_append, List.length_take, List.getElem?_append, List.getElem?_take, List.getElem?_drop, Nat.min_eq_left (by omega)]
  by_cases h1 : i < o
  · simp [h1, show ¬ o ≤ i by omega]
  · by_cases h2 : i < o + r.length
    · simp [h1, h2, show o ≤ i by omega, show i - o < r.length by omega]
    · simp [h1, h2, show ¬ i - o < r.length by omega]
      congr 1; omega

theorem splice_length (l r : List α) (o : Nat) (h : o + r.length ≤ l.length) : (splice l o r).length = l.length := by
  unfold splice; simp; omega

theorem lmap_some {f : α → (β → Option R) → Option R} {Q : α → β → Prop} {l : List α} (hf : ∀ x ∈ l, ∀ k r, f x k = some r → ∃ y, k y = some r ∧ Q x y) :
    ∀ {k : List β → Option R} {r : R}, lmap f l k = some r → ∃ ys : List β, k ys = some r ∧ ys.length = l.length ∧ ∀ (i : Nat) (x : α) (y : β), l[i]? = some x → ys[i]? = some y → Q x y := by
  induction l with
  | nil => exact fun h => ⟨[], h, rfl, fun i x y hx => by simp at hx⟩
  | cons x l ih =>
    intro k r h
    obtain ⟨y, hy, hq⟩ := hf x (List.mem_cons_self ..) _ _ h
    obtain ⟨ys, hys, hlen, hall⟩ := ih (fun z hz => hf z (List.mem_cons_of_mem _ hz)) hy
    refine ⟨y :: ys, hys, by simp [hlen], fun i a b ha hb => ?_⟩
    cases i with
    | zero => simp at ha hb; subst ha; subst hb; exact hq
    | succ i => simp at ha hb; exact hall i a b ha hb

theorem lmap_fun {f : α → (β → Option R) → Option R} {g : α → β} {l : List α} (hf : ∀ x ∈ l, ∀ k, f x k = k (g x)) (k : List β → Option R) : lmap f l k = k (l.map g) := by
  induction l generalizing k with
  | nil => rfl
  | cons x l ih => exact (hf x (List.mem_cons_self ..) _).trans (ih (fun z hz => hf z (List.mem_cons_of_mem _ hz)) _)

theorem lrepl_eq (z : List AV) (n : Nat) (k : List AV → Option R) : lrepl z n k = k ((List.replicate n z).flatten) := by
  induction n generalizing k with
  | zero => rfl
  | succ n ih => exact (ih _).trans ((lapp_eq _ _ _).trans (by rw [List.replicate_succ, List.flatten_cons]))

/-- What a tree holds. -/
def Tr.get : Tr α → Nat → Option α
  | .lf, _ => none
  | .nd _ o _, 0 => o
  | .nd l _ r, m + 1 => if m % 2 = 0 then l.get (m / 2) else r.get (m / 2)

theorem even_b {m : Nat} (h : m % 2 = 0) : Nat.beq (Nat.mod m 2) 0 = true := by show Nat.beq (m % 2) 0 = true; rw [h]; rfl
theorem odd_b {m : Nat} (h : ¬ m % 2 = 0) : Nat.beq (Nat.mod m 2) 0 = false := by
  show Nat.beq (m % 2) 0 = false
  have : m % 2 = 1 := by omega
  rw [this]; rfl

theorem tget_eq (t : Tr α) (n : Nat) (k : Option α → Option R) : tget t n k = k (t.get n) := by
  induction t generalizing n with
  | lf => cases n <;> rfl
  | nd l o r ihl ihr => cases n with
    | zero => rfl
    | succ m =>
      by_cases h : m % 2 = 0
      · have hb : Nat.beq (Nat.mod m 2) 0 = true := by first | exact even_b h | exact odd_b h
        show (Bool.rec _ _ (Nat.beq (Nat.mod m 2) 0) : Option R) = _
        rw [hb]
        show tget l (m / 2) k = _
        rw [ihl]; simp [Tr.get, h]
      · have hb : Nat.beq (Nat.mod m 2) 0 = false := by first | exact even_b h | exact odd_b h
        show (Bool.rec _ _ (Nat.beq (Nat.mod m 2) 0) : Option R) = _
        rw [hb]
        show tget r (m / 2) k = _
        rw [ihr]; simp [Tr.get, h]

theorem tset_some {o : Option α} : ∀ (f : Nat) {t : Tr α} {n : Nat} {k : Tr α → Option R} {r : R}, tset o f t n k = some r → ∃ t', k t' = some r ∧ ∀ m, t'.get m = if m = n then o else t.get m := by
  intro f
  induction f with
  | zero => intro t n k r h; cases h
  | succ f ih =>
    intro t n k r h
    have go : ∀ (l r' : Tr α) (x : Option α) (m : Nat), (Bool.rec (motive := fun _ => Option R) (tset o f r' (Nat.div m 2) fun r => k (.nd l x r)) (tset o f l (Nat.div m 2) fun l => k (.nd l x r')) (Nat.beq (Nat.mod m 2) 0)) = some r →
        ∃ t', k t' = some r ∧ ∀ j, t'.get j = if j = m + 1 then o else (Tr.nd l x r').get j := by
      intro l r' x m h
      by_cases hm : m % 2 = 0
      · have hb : Nat.beq (Nat.mod m 2) 0 = true := by first | exact even_b hm | exact odd_b hm
        rw [hb] at h
        obtain ⟨t', h1, h2⟩ := ih h
        refine ⟨_, h1, fun j => ?_⟩
        cases j with
        | zero => simp [Tr.get]
        | succ j =>
          by_cases hj : j % 2 = 0
          · simp only [Tr.get, hj, if_true, h2]
            by_cases e : j = m
            · subst e; simp [show Nat.div j 2 = j / 2 from rfl]
            · have e' : ¬ j / 2 = Nat.div m 2 := fun e2 => e (by have : Nat.div m 2 = m / 2 := rfl; omega)
              simp [e, e']
          · have e : ¬ j = m := fun e => hj (e ▸ hm)
            simp [Tr.get, hj, e]
      · have hb : Nat.beq (Nat.mod m 2) 0 = false := by first | exact even_b hm | exact odd_b hm
        rw [hb] at h
        obtain ⟨t', h1, h2⟩ := ih h
        refine ⟨_, h1, fun j => ?_⟩
        cases j with
        | zero => simp [Tr.get]
        | succ j =>
          by_cases hj : j % 2 = 0
          · have e : ¬ j = m := fun e => hm (e ▸ hj)
            simp [Tr.get, hj, e]
          · simp only [Tr.get, hj, if_false, h2]
            by_cases e : j = m
            · subst e; simp [show Nat.div j 2 = j / 2 from rfl]
            · have e' : ¬ j / 2 = Nat.div m 2 := fun e2 => e (by have : Nat.div m 2 = m / 2 := rfl; omega)
              simp [e, e']
    cases t with
    | lf => cases n with
      | zero =>
        refine ⟨_, h, fun j => ?_⟩
        cases j with
        | zero => simp [Tr.get]
        | succ j => simp [Tr.get]
      | succ m =>
        obtain ⟨t', h1, h2⟩ := go .lf .lf none m h
        refine ⟨t', h1, fun j => ?_⟩
        rw [h2]
        cases j <;> simp [Tr.get]
    | nd l x r' => cases n with
      | zero =>
        refine ⟨_, h, fun j => ?_⟩
        cases j with
        | zero => simp [Tr.get]
        | succ j => simp [Tr.get]
      | succ m => exact go l r' x m h
end
end Go.Proofs.YtnllmelmmcapcaaGreatDoor.Ev
