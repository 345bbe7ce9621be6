/- Operators. -/
import Derived.Test.YtnllmelmmcapcaaGreatDoorEvO9
namespace Go.Proofs.YtnllmelmmcapcaaGreatDoor.Ev
open Go Go.RowKit
set_option linter.unusedVariables false

section
variable {R : Type} {P : Program} {r : R}

theorem evInt_ok {op : BinOp} {t : TypeId} {ka kb : IntKind} {a b : Int} {k : AV → Option R} (h : evInt op ka a kb b k = some r) :
    ∃ v, k v = some r ∧ (∀ ρ w, (binOp op t (.int ka a) (.int kb b)).run P w = .ok (conc ρ v) w) ∧ ∀ n, v.lt n := by
  unfold evInt at h
  cases op
  case shl =>
    by_cases hb : b < 0
    · simp [hb] at h
    · simp only [hb, decide_false, cond_false, intK_eq] at h
      exact ⟨_, h, fun ρ w => by simp [binOp, Op.shift, hb, conc], fun n => by simp [AV.lt]⟩
  case shr =>
    by_cases hb : b < 0
    · simp [hb] at h
    · simp only [hb, decide_false, cond_false, intK_eq] at h
      exact ⟨_, h, fun ρ w => by simp [binOp, Op.shift, hb, conc], fun n => by simp [AV.lt]⟩
  all_goals
    obtain ⟨he, h⟩ := cond_some h
    have he := of_decide_eq_true he
    subst he
  case quo =>
    by_cases hb : b = 0
    · simp [hb] at h
    · simp only [hb, decide_false, cond_false, intK_eq] at h
      exact ⟨_, h, fun ρ w => by simp [binOp, Op.intDiv, hb, conc], fun n => by simp [AV.lt]⟩
  case rem =>
    by_cases hb : b = 0
    · simp [hb] at h
    · simp only [hb, decide_false, cond_false, intK_eq] at h
      exact ⟨_, h, fun ρ w => by simp [binOp, Op.intDiv, hb, conc], fun n => by simp [AV.lt]⟩
  all_goals
    simp only [intK_eq, boolK_eq] at h
    exact ⟨_, h, fun ρ w => by simp [binOp, Op.intArith, Op.intBits, Op.intCmp, conc], fun n => by simp [AV.lt]⟩

theorem toList_str (ρ : Env) (l : List Nat) : (⟨(l.map (byteC ρ)).toArray⟩ : ByteArray).toList = l.map (byteC ρ) := by
  rw [ByteArray.toList_eq]

theorem known_iff (l : List Nat) : known l = true ↔ ∀ c ∈ l, c < 256 := by
  induction l with
  | nil => simp [known]
  | cons c l ih =>
    have e : known (c :: l) = cond (Nat.blt c 256) (known l) false := rfl
    rw [e]
    cases h : Nat.blt c 256 with
    | true => simp [ih, blt_lt h]
    | false =>
      have hn : ¬ c < 256 := fun e => by rw [show Nat.blt c 256 = true from Nat.ble_eq_true_of_le e] at h; cases h
      simp [hn]

theorem byteC_inj {ρ : Env} {c d : Nat} (hc : c < 256) (hd : d < 256) : byteC ρ c = byteC ρ d ↔ c = d := by
  constructor
  · intro h
    have := congrArg UInt8.toNat h
    rwa [byteC_lt hc, byteC_lt hd] at this
  · rintro rfl; rfl

theorem leq_ok (ρ : Env) : ∀ (a b : List Nat), known a = true → known b = true → (leq a b = true ↔ a.map (byteC ρ) = b.map (byteC ρ))
  | [], [], _, _ => by simp [leq]
  | [], _ :: _, _, _ => by simp [leq]
  | _ :: _, [], _, _ => by simp [leq]
  | x :: a, y :: b, ha, hb => by
    have ha' := (known_iff _).1 ha
    have hb' := (known_iff _).1 hb
    have ih := leq_ok ρ a b ((known_iff _).2 fun c hc => ha' c (List.mem_cons_of_mem _ hc)) ((known_iff _).2 fun c hc => hb' c (List.mem_cons_of_mem _ hc))
    have e : leq (x :: a) (y :: b) = cond (Nat.beq x y) (leq a b) false := rfl
    rw [e]
    have hx := ha' x (List.mem_cons_self ..)
    have hy := hb' y (List.mem_cons_self ..)
    cases h : Nat.beq x y with
    | true => have := beq_eq' h; subst this; simp [ih]
    | false => have := beq_ne' h; simp [byteC_inj hx hy, this]

theorem llt_ok (ρ : Env) : ∀ (a b : List Nat), known a = true → known b = true → llt a b = Op.bytesLess (a.map (byteC ρ)) (b.map (byteC ρ))
  | [], [], _, _ => by simp [llt, Op.bytesLess]
  | [], _ :: _, _, _ => by simp [llt, Op.bytesLess]
  | _ :: _, [], _, _ => by simp [llt, Op.bytesLess]
  | x :: a, y :: b, ha, hb => by
    have ha' := (known_iff _).1 ha
    have hb' := (known_iff _).1 hb
    have ih := llt_ok ρ a b ((known_iff _).2 fun c hc => ha' c (List.mem_cons_of_mem _ hc)) ((known_iff _).2 fun c hc => hb' c (List.mem_cons_of_mem _ hc))
    have e : llt (x :: a) (y :: b) = cond (Nat.blt x y) true (cond (Nat.beq x y) (llt a b) false) := rfl
    rw [e, ih]
    have hx := ha' x (List.mem_cons_self ..)
    have hy := hb' y (List.mem_cons_self ..)
    simp only [List.map_cons, Op.bytesLess]
    have hlt : (byteC ρ x < byteC ρ y) ↔ x < y := by rw [UInt8.lt_iff_toNat_lt, byteC_lt hx, byteC_lt hy]
    cases h : Nat.blt x y with
    | true => simp [hlt, blt_lt h]
    | false =>
      have hn : ¬ x < y := fun e => by rw [show Nat.blt x y = true from Nat.ble_eq_true_of_le e] at h; cases h
      cases h2 : Nat.beq x y with
      | true => have := beq_eq' h2; subst this; simp
      | false => have := beq_ne' h2; simp [hlt, hn, byteC_inj hx hy, this]

theorem evStr_ok {op : BinOp} {t : TypeId} {a b : List Nat} {k : AV → Option R} (h : evStr op a b k = some r) :
    ∃ v, k v = some r ∧ (∀ ρ w, (binOp op t (conc ρ (.str a)) (conc ρ (.str b))).run P w = .ok (conc ρ v) w) ∧ ∀ n, v.lt n := by
  unfold evStr at h
  cases op
  case add =>
    obtain ⟨hc, h⟩ := cond_some h
    have hc := blt_lt hc
    rw [llen_eq, llen_eq] at hc
    rw [lapp_eq] at h
    refine ⟨_, h, fun ρ w => ?_, fun n => by simp [AV.lt]⟩
    have hno : ¬ (((a.length + b.length : Nat) : Int) > IntKind.i64.max) := by
      have : IntKind.i64.max = 9223372036854775807 := rfl
      omega
    simp only [conc, binOp, Op.stringOp, str_size, if_neg hno, Sem.run_pure, List.map_append]
    congr 2
    try (apply ByteArray.ext; simp)
  all_goals
    obtain ⟨hc, h⟩ := cond_some h
    simp only [Bool.and_eq_true] at hc
    obtain ⟨ha, hb⟩ := hc
  case eql =>
    change boolK _ _ = _ at h
    rw [boolK_eq] at h
    refine ⟨_, h, fun ρ w => ?_, fun n => by simp [AV.lt]⟩
    simp only [conc, binOp, Op.stringOp, toList_str, Sem.run_pure]
    congr 2
    rw [Bool.eq_iff_iff, beq_iff_eq]; exact (leq_ok ρ a b ha hb).symm
  case neq =>
    change boolK _ _ = _ at h
    rw [boolK_eq] at h
    refine ⟨_, h, fun ρ w => ?_, fun n => by simp [AV.lt]⟩
    simp only [conc, binOp, Op.stringOp, toList_str, Sem.run_pure]
    congr 3
    rw [Bool.eq_iff_iff, beq_iff_eq]; exact (leq_ok ρ a b ha hb).symm
  case lss =>
    change boolK _ _ = _ at h
    rw [boolK_eq] at h
    refine ⟨_, h, fun ρ w => ?_, fun n => by simp [AV.lt]⟩
    simp only [conc, binOp, Op.stringOp, toList_str, Sem.run_pure, llt_ok ρ a b ha hb]
  case geq =>
    change boolK _ _ = _ at h
    rw [boolK_eq] at h
    refine ⟨_, h, fun ρ w => ?_, fun n => by simp [AV.lt]⟩
    simp only [conc, binOp, Op.stringOp, toList_str, Sem.run_pure, llt_ok ρ a b ha hb]
  case leq =>
    change boolK _ _ = _ at h
    rw [boolK_eq] at h
    refine ⟨_, h, fun ρ w => ?_, fun n => by simp [AV.lt]⟩
    simp only [conc, binOp, Op.stringOp, toList_str, Sem.run_pure, llt_ok ρ a b ha hb]
    congr 3
    rw [Bool.eq_iff_iff, beq_iff_eq]; exact (leq_ok ρ a b ha hb).symm
  case gtr =>
    change boolK _ _ = _ at h
    rw [boolK_eq] at h
    refine ⟨_, h, fun ρ w => ?_, fun n => by simp [AV.lt]⟩
    simp only [conc, binOp, Op.stringOp, toList_str, Sem.run_pure, llt_ok ρ a b ha hb]
    congr 4
    rw [Bool.eq_iff_iff, beq_iff_eq]; exact (leq_ok ρ a b ha hb).symm
  all_goals cases h

theorem evUn_ok {op : UnOp} {x : AV} {k : AV → Option R} (h : evUn op x k = some r) :
    ∃ v, k v = some r ∧ Pure P (fun ρ => Op.unary op (conc ρ x)) v [x] := by
  unfold evUn at h
  split at h
  · rw [boolK_eq] at h; exact ⟨_, h, fun ρ w => by simp [Op.unary, conc], fun n _ => by simp [AV.lt]⟩
  · rw [intK_eq] at h; exact ⟨_, h, fun ρ w => by simp [Op.unary, Op.intArith, conc], fun n _ => by simp [AV.lt]⟩
  · rw [intK_eq] at h; exact ⟨_, h, fun ρ w => by simp [Op.unary, Op.intBits, conc], fun n _ => by simp [AV.lt]⟩
  · cases h
end
end Go.Proofs.YtnllmelmmcapcaaGreatDoor.Ev
