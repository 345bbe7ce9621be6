/- Operators. -/
import Derived.Test.YtnllmelmmcapcaaGreatDoorEvO
namespace Go.Proofs.YtnllmelmmcapcaaGreatDoor.Ev
open Go Go.RowKit
set_option linter.unusedVariables false

section
variable {R : Type} {P : Program} {r : R}

theorem evInt_ok {op : BinOp} {t : TypeId} {ka kb : IntKind} {a b : Int} {k : AV → Option R} (h : evInt op ka a kb b k = some r) :
    ∃ v, k v = some r ∧ (∀ ρ w, (binOp op t (.int ka a) (.int kb b)).run P w = .ok (conc ρ v) w) ∧ ∀ n, v.lt n := by
  unfold evInt at h
  cases op
  case shl =>
    by_cases hb : b < 0
    · simp [hb] at h
    · simp only [hb, decide_false, cond_false, intK_eq] at h
      exact ⟨_, h, fun ρ w => by simp [binOp, Op.shift, hb, conc], fun n => by simp [AV.lt]⟩
  case shr =>
    by_cases hb : b < 0
    · simp [hb] at h
    · simp only [hb, decide_false, cond_false, intK_eq] at h
      exact ⟨_, h, fun ρ w => by simp [binOp, Op.shift, hb, conc], fun n => by simp [AV.lt]⟩
  all_goals
    obtain ⟨he, h⟩ := cond_some h
    have he := of_decide_eq_true he
    subst he
  case quo =>
    by_cases hb : b = 0
    · simp [hb] at h
    · simp only [hb, decide_false, cond_false, intK_eq] at h
      exact ⟨_, h, fun ρ w => by simp [binOp, Op.intDiv, hb, conc], fun n => by simp [AV.lt]⟩
  case rem =>
    by_cases hb : b = 0
    · simp [hb] at h
    · simp only [hb, decide_false, cond_false, intK_eq] at h
      exact ⟨_, h, fun ρ w => by simp [binOp, Op.intDiv, hb, conc], fun n => by simp [AV.lt]⟩
  all_goals
    simp only [intK_eq, boolK_eq] at h
    exact ⟨_, h, fun ρ w => by simp [binOp, Op.intArith, Op.intBits, Op.intCmp, conc], fun n => by simp [AV.lt]⟩

theorem toList_str (ρ : Env) (l : List Nat) : (⟨(l.map (byteC ρ)).toArray⟩ : ByteArray).toList = l.map (byteC ρ) := by
  rw [ByteArray.toList_eq]

theorem known_iff (l : List Nat) : known l = true ↔ ∀ c ∈ l, c < 256 := by
  induction l with
  | nil => simp [known]
  | cons c l ih =>
    have e : known (c :: l) = cond (Nat.blt c 256) (known l) false := rfl
    rw [e]
    cases h : Nat.blt c 256 with
    | true => simp [ih, blt_lt h]
    | false =>
      have hn : ¬ c < 256 := fun e => by rw [show Nat.blt c 256 = true from Nat.ble_eq_true_of_le e] at h; cases h
      simp [hn]

theorem byteC_inj {ρ : Env} {c d : Nat} (hc : c < 256) (hd : d < 256) : byteC ρ c = byteC ρ d ↔ c = d := by
  constructor
  · intro h
    have := congrArg UInt8.toNat h
    rwa [byteC_lt hc, byteC_lt hd] at this
  · rintro rfl; rfl

theorem leq_ok (ρ : Env) : ∀ (a b : List Nat), known a = true → known b = true → (leq a b = true ↔ a.map (byteC ρ) = b.map (byteC ρ))
  | [], [], _, _ => by simp [leq]
  | [], _ :: _, _, _ => by simp [leq]
  | _ :: _, [], _, _ => by simp [leq]
  | x :: a, y :: b, ha, hb => by
    have ha' := (known_iff _).1 ha
    have hb' := (known_iff _).1 hb
    have ih := leq_ok ρ a b ((known_iff _).2 fun c hc => ha' c (List.mem_cons_of_mem _ hc)) ((known_iff _).2 fun c hc => hb' c (List.mem_cons_of_mem _ hc))
    have e : leq (x :: a) (y :: b) = cond (Nat.beq x y) (leq a b) false := rfl
    rw [e]
    have hx := ha' x (List.mem_cons_self ..)
    have hy := hb' y (List.mem_cons_self ..)
    cases h : Nat.beq x y with
    | true => have := beq_eq' h; subst this; simp [ih]
    | false => have := beq_ne' h; simp [byteC_inj hx hy, this]

theorem byteC_dig {ρ : Env} {c : Nat} (h : isDig c = true) : 48 ≤ (byteC ρ c).toNat ∧ (byteC ρ c).toNat ≤ 57 := by
  simp only [isDig, Bool.and_eq_true] at h
  have h1 := ble_le h.1
  have h2 := blt_lt h.2
  rw [byteC_ge (by omega)]
  exact ρ.dig (by omega)

theorem noDig_byte {ρ : Env} {c : Nat} (h : noDig c = true) : (byteC ρ c).toNat < 48 ∨ 57 < (byteC ρ c).toNat := by
  simp only [noDig, Bool.or_eq_true, Bool.and_eq_true] at h
  rcases h with h | ⟨h1, h2⟩
  · have := blt_lt h
    rw [byteC_lt (by omega)]; exact .inl this
  · have := blt_lt h1
    have := blt_lt h2
    rw [byteC_lt (by omega)]; exact .inr (by omega)

theorem cmpK_ok {x y : Nat} {k : Bool → Option R} (h : cmpK x y k = some r) : ∃ c, k c = some r ∧ ∀ ρ : Env, (byteC ρ x == byteC ρ y) = c := by
  unfold cmpK at h
  cases hb : Nat.beq x y with
  | true =>
    rw [hb, cond_true] at h
    exact ⟨_, h, fun ρ => by rw [beq_eq' hb]; simp⟩
  | false =>
    rw [hb, cond_false] at h
    obtain ⟨hc, h⟩ := cond_some h
    refine ⟨_, h, fun ρ => ?_⟩
    have hne := beq_ne' hb
    rw [← Bool.not_eq_true]
    simp only [beq_iff_eq]
    intro e
    simp only [Bool.or_eq_true, Bool.and_eq_true] at hc
    rcases hc with (⟨h1, h2⟩ | ⟨h1, h2⟩) | ⟨h1, h2⟩
    · exact hne ((byteC_inj (blt_lt h1) (blt_lt h2)).1 e)
    · have q1 := byteC_dig (ρ := ρ) h1
      have q2 := noDig_byte (ρ := ρ) h2
      rw [e] at q1; omega
    · have q1 := byteC_dig (ρ := ρ) h1
      have q2 := noDig_byte (ρ := ρ) h2
      rw [← e] at q1; omega

theorem sameL_ok : ∀ (a b : List Nat) {k : Bool → Option R}, sameL a b k = some r → ∃ c, k c = some r ∧ ∀ ρ : Env, (a.map (byteC ρ) = b.map (byteC ρ) ↔ c = true)
  | [], [], k, h => ⟨true, h, fun ρ => by simp⟩
  | [], y :: b, k, h => by cases h
  | x :: a, [], k, h => by cases h
  | x :: a, y :: b, k, h => by
    have h : (cmpK x y fun c => cond c (sameL a b k) (k false)) = some r := h
    obtain ⟨c, h, hc⟩ := cmpK_ok h
    cases c with
    | true =>
      obtain ⟨c2, h, hc2⟩ := sameL_ok a b h
      refine ⟨c2, h, fun ρ => ?_⟩
      have := beq_iff_eq.1 (hc ρ)
      simp [this, hc2 ρ]
    | false =>
      refine ⟨false, h, fun ρ => ?_⟩
      have := hc ρ
      simp only [beq_eq_false_iff_ne, ne_eq] at this
      simp [this]

theorem sameK_ok {a b : List Nat} {k : Bool → Option R} (h : sameK a b k = some r) : ∃ c, k c = some r ∧ ∀ ρ : Env, (a.map (byteC ρ) = b.map (byteC ρ) ↔ c = true) := by
  unfold sameK at h
  cases hb : Nat.beq (llen a) (llen b) with
  | true => rw [hb, cond_true] at h; exact sameL_ok a b h
  | false =>
    rw [hb, cond_false] at h
    have := beq_ne' hb
    rw [llen_eq, llen_eq] at this
    refine ⟨false, h, fun ρ => ⟨fun e => ?_, fun e => by cases e⟩⟩
    have := congrArg List.length e
    simp at this
    contradiction

theorem llt_ok (ρ : Env) : ∀ (a b : List Nat), known a = true → known b = true → llt a b = Op.bytesLess (a.map (byteC ρ)) (b.map (byteC ρ))
  | [], [], _, _ => by simp [llt, Op.bytesLess]
  | [], _ :: _, _, _ => by simp [llt, Op.bytesLess]
  | _ :: _, [], _, _ => by simp [llt, Op.bytesLess]
  | x :: a, y :: b, ha, hb => by
    have ha' := (known_iff _).1 ha
    have hb' := (known_iff _).1 hb
    have ih := llt_ok ρ a b ((known_iff _).2 fun c hc => ha' c (List.mem_cons_of_mem _ hc)) ((known_iff _).2 fun c hc => hb' c (List.mem_cons_of_mem _ hc))
    have e : llt (x :: a) (y :: b) = cond (Nat.blt x y) true (cond (Nat.beq x y) (llt a b) false) := rfl
    rw [e, ih]
    have hx := ha' x (List.mem_cons_self ..)
    have hy := hb' y (List.mem_cons_self ..)
    simp only [List.map_cons, Op.bytesLess]
    have hlt : (byteC ρ x < byteC ρ y) ↔ x < y := by rw [UInt8.lt_iff_toNat_lt, byteC_lt hx, byteC_lt hy]
    cases h : Nat.blt x y with
    | true => simp [hlt, blt_lt h]
    | false =>
      have hn : ¬ x < y := fun e => by rw [show Nat.blt x y = true from Nat.ble_eq_true_of_le e] at h; cases h
      cases h2 : Nat.beq x y with
      | true => have := beq_eq' h2; subst this; simp
      | false => have := beq_ne' h2; simp [hlt, hn, byteC_inj hx hy, this]

theorem evStr_add {t : TypeId} {a b : List Nat} {k : AV → Option R} (h : evStr .add a b k = some r) :
    ∃ v, k v = some r ∧ (∀ ρ w, (binOp .add t (conc ρ (.str a)) (conc ρ (.str b))).run P w = .ok (conc ρ v) w) ∧ ∀ n, v.lt n := by
  unfold evStr at h
  obtain ⟨hc, h⟩ := cond_some h
  have hc := blt_lt hc
  rw [llen_eq, llen_eq] at hc
  rw [lapp_eq] at h
  refine ⟨_, h, fun ρ w => ?_, fun n => by simp [AV.lt]⟩
  have hno : ¬ (((a.length + b.length : Nat) : Int) > IntKind.i64.max) := by
    have : IntKind.i64.max = 9223372036854775807 := rfl
    omega
  simp only [conc, binOp, Op.stringOp, str_size, if_neg hno, Sem.run_pure, List.map_append]
  congr 2
  try (apply ByteArray.ext; simp)

theorem evStr_unknown {op : BinOp} {t : TypeId} {a b : List Nat} {k : AV → Option R} (hop : op ≠ .add) (hc : (known a && known b) = false) (h : evStr op a b k = some r) :
    ∃ v, k v = some r ∧ (∀ ρ w, (binOp op t (conc ρ (.str a)) (conc ρ (.str b))).run P w = .ok (conc ρ v) w) ∧ ∀ n, v.lt n := by
  unfold evStr at h
  cases op <;> first
    | (exact absurd rfl hop)
    | (exfalso; simp [hc] at h; done)
    | (simp only [hc, cond_false] at h
       change sameK a b (fun c => k (.bool c)) = some r at h
       obtain ⟨c, h, hcc⟩ := sameK_ok h
       refine ⟨_, h, fun ρ w => ?_, fun n => by simp [AV.lt]⟩
       simp only [conc, binOp, Op.stringOp, toList_str, Sem.run_pure]
       congr 2
       rw [Bool.eq_iff_iff, beq_iff_eq]; exact hcc ρ)
    | (simp only [hc, cond_false] at h
       change sameK a b (fun c => boolK (!c) fun c => k (.bool c)) = some r at h
       obtain ⟨c, h, hcc⟩ := sameK_ok h
       rw [boolK_eq] at h
       refine ⟨_, h, fun ρ w => ?_, fun n => by simp [AV.lt]⟩
       simp only [conc, binOp, Op.stringOp, toList_str, Sem.run_pure]
       congr 3
       rw [Bool.eq_iff_iff, beq_iff_eq]; exact hcc ρ)

theorem evStr_ok {op : BinOp} {t : TypeId} {a b : List Nat} {k : AV → Option R} (h : evStr op a b k = some r) :
    ∃ v, k v = some r ∧ (∀ ρ w, (binOp op t (conc ρ (.str a)) (conc ρ (.str b))).run P w = .ok (conc ρ v) w) ∧ ∀ n, v.lt n := by
  by_cases hop : op = .add
  · subst hop; exact evStr_add h
  cases hc : known a && known b with
  | false => exact evStr_unknown hop hc h
  | true =>
  have hk : (∃ op', op' = op ∧ evStr op' a b k = some r) := ⟨op, rfl, h⟩
  clear h
  obtain ⟨op', rfl, h⟩ := hk
  unfold evStr at h
  cases op'
  case add => exact absurd rfl hop
  all_goals
    simp only [hc, cond_true] at h
    try simp only [Bool.and_eq_true] at hc
    try obtain ⟨ha, hb⟩ := hc
  case eql =>
    change boolK _ _ = _ at h
    rw [boolK_eq] at h
    refine ⟨_, h, fun ρ w => ?_, fun n => by simp [AV.lt]⟩
    simp only [conc, binOp, Op.stringOp, toList_str, Sem.run_pure]
    congr 2
    rw [Bool.eq_iff_iff, beq_iff_eq]; exact (leq_ok ρ a b ha hb).symm
  case neq =>
    change boolK _ _ = _ at h
    rw [boolK_eq] at h
    refine ⟨_, h, fun ρ w => ?_, fun n => by simp [AV.lt]⟩
    simp only [conc, binOp, Op.stringOp, toList_str, Sem.run_pure]
    congr 3
    rw [Bool.eq_iff_iff, beq_iff_eq]; exact (leq_ok ρ a b ha hb).symm
  case lss =>
    change boolK _ _ = _ at h
    rw [boolK_eq] at h
    refine ⟨_, h, fun ρ w => ?_, fun n => by simp [AV.lt]⟩
    simp only [conc, binOp, Op.stringOp, toList_str, Sem.run_pure, llt_ok ρ a b ha hb]
  case geq =>
    change boolK _ _ = _ at h
    rw [boolK_eq] at h
    refine ⟨_, h, fun ρ w => ?_, fun n => by simp [AV.lt]⟩
    simp only [conc, binOp, Op.stringOp, toList_str, Sem.run_pure, llt_ok ρ a b ha hb]
  case leq =>
    change boolK _ _ = _ at h
    rw [boolK_eq] at h
    refine ⟨_, h, fun ρ w => ?_, fun n => by simp [AV.lt]⟩
    simp only [conc, binOp, Op.stringOp, toList_str, Sem.run_pure, llt_ok ρ a b ha hb]
    congr 3
    rw [Bool.eq_iff_iff, beq_iff_eq]; exact (leq_ok ρ a b ha hb).symm
  case gtr =>
    change boolK _ _ = _ at h
    rw [boolK_eq] at h
    refine ⟨_, h, fun ρ w => ?_, fun n => by simp [AV.lt]⟩
    simp only [conc, binOp, Op.stringOp, toList_str, Sem.run_pure, llt_ok ρ a b ha hb]
    congr 4
    rw [Bool.eq_iff_iff, beq_iff_eq]; exact (leq_ok ρ a b ha hb).symm
  all_goals cases h

theorem ordK_ok {op : BinOp} {lo hi b : Int} {k : AV → Option R} (h : ordK op lo hi b k = some r) :
    ∃ c, k (.bool c) = some r ∧ ∀ t kd x w, lo ≤ x → x ≤ hi → (binOp op t (.int kd x) (.int kd b)).run P w = .ok (.bool c) w := by
  unfold ordK at h
  by_cases h1 : b < lo
  · simp only [h1, decide_true, cond_true] at h
    cases op <;> first
      | (cases h; done)
      | exact ⟨_, h, fun t kd x w q1 q2 => by
          have e1 : ¬ x = b := by omega
          have e2 : ¬ x < b := by omega
          have e3 : ¬ x ≤ b := by omega
          have e4 : b < x := by omega
          have e5 : b ≤ x := by omega
          simp [binOp, Op.intCmp, e1, e2, e3, e4, e5]⟩
  · simp only [h1, decide_false, cond_false] at h
    obtain ⟨h2, h⟩ := cond_some h
    have h2 := of_decide_eq_true h2
    cases op <;> first
      | (cases h; done)
      | exact ⟨_, h, fun t kd x w q1 q2 => by
          have e1 : ¬ x = b := by omega
          have e2 : x < b := by omega
          have e3 : x ≤ b := by omega
          have e4 : ¬ b < x := by omega
          have e5 : ¬ b ≤ x := by omega
          simp [binOp, Op.intCmp, e1, e2, e3, e4, e5]⟩

theorem ordK'_ok {op : BinOp} {lo hi b : Int} {k : AV → Option R} (h : ordK' op lo hi b k = some r) :
    ∃ c, k (.bool c) = some r ∧ ∀ t kd x w, lo ≤ x → x ≤ hi → (binOp op t (.int kd b) (.int kd x)).run P w = .ok (.bool c) w := by
  unfold ordK' at h
  cases op <;> first
    | (cases h; done)
    | (obtain ⟨c, h, hc⟩ := ordK_ok (P := P) h
       refine ⟨c, h, fun t kd x w q1 q2 => ?_⟩
       have := hc t kd x w q1 q2
       simp only [binOp, Op.intCmp] at this ⊢
       first | (rw [← this]; done) | (rw [← this]; congr 3; exact congrArg Value.bool (by rw [Bool.eq_iff_iff, beq_iff_eq, beq_iff_eq]; exact eq_comm)) | (rw [← this]; congr 3; exact congrArg Value.bool (by rw [Bool.eq_iff_iff, bne_iff_ne, bne_iff_ne]; exact ne_comm)))

theorem evUn_ok {op : UnOp} {x : AV} {k : AV → Option R} (h : evUn op x k = some r) :
    ∃ v, k v = some r ∧ Pure P (fun ρ => Op.unary op (conc ρ x)) v [x] := by
  unfold evUn at h
  split at h
  · rw [boolK_eq] at h; exact ⟨_, h, fun ρ w => by simp [Op.unary, conc], fun n _ => by simp [AV.lt]⟩
  · rw [intK_eq] at h; exact ⟨_, h, fun ρ w => by simp [Op.unary, Op.intArith, conc], fun n _ => by simp [AV.lt]⟩
  · rw [intK_eq] at h; exact ⟨_, h, fun ρ w => by simp [Op.unary, Op.intBits, conc], fun n _ => by simp [AV.lt]⟩
  · cases h
end
end Go.Proofs.YtnllmelmmcapcaaGreatDoor.Ev
namespace Go.Proofs.YtnllmelmmcapcaaGreatDoor.Ev
open Go Go.RowKit
set_option linter.unusedVariables false

section
variable {R : Type} {P : Program} {r : R}

theorem ba_beq (a b : List UInt8) : ((⟨a.toArray⟩ : ByteArray) == ⟨b.toArray⟩) = true ↔ a = b := by
  have e : ((⟨a.toArray⟩ : ByteArray) == ⟨b.toArray⟩) = (a.toArray == b.toArray) := rfl
  rw [e, beq_iff_eq]
  exact ⟨fun h => by simpa using h, fun h => by rw [h]⟩

set_option maxHeartbeats 2000000 in
theorem eq1_ok {t : TypeId} {x y : AV} {k : Bool → Option R} (h : eq1 P t x y k = some r) :
    ∃ c, k c = some r ∧ (∀ ρ w d, (Op.equalIn (d + 1) t (conc ρ x) (conc ρ y)).run P w = .ok c w) ∧ ∀ op x' y' ρ w, (eqGuard op t x' y' (conc ρ x) (conc ρ y)).run P w = .ok () w := by
  have guard : ∀ {a b : Value}, (∀ (h1 : a = .nilIface) (h2 : b = .nilIface), False) → (∀ c d, a = .agg c → b = .agg d → False) → ∀ op x' y' w, (eqGuard op t x' y' a b).run P w = .ok () w := fun {a b} h1 h2 op x' y' w => by
    unfold eqGuard
    cases a <;> cases b <;> first | (split <;> rfl) | exact (h1 rfl rfl).elim | exact (h2 _ _ rfl rfl).elim
  unfold eq1 at h
  split at h
  · rename_i hu
    split at h
    · rw [boolK_eq] at h
      exact ⟨_, h, fun ρ w d => by simp only [Op.equalIn, Sem.run_bind, run_underlying hu, Result.andThen_ok, conc, Sem.run_pure, Option.isNone], fun op x' y' ρ w => guard (by simp [conc]) (by simp [conc]) op x' y' w⟩
    · cases h
  · rename_i kd hu
    split at h
    · obtain ⟨hk, h'⟩ := cond_some h
      have hk := of_decide_eq_true hk
      subst hk
      clear h
      rw [boolK_eq] at h'
      exact ⟨_, h', fun ρ w d => by simp only [Op.equalIn, Sem.run_bind, run_underlying hu, Result.andThen_ok, conc, Sem.run_pure, if_true, Option.isNone], fun op x' y' ρ w => guard (by simp [conc]) (by simp [conc]) op x' y' w⟩
    · cases h
  · rename_i hu
    split at h
    · rename_i a b
      cases hc : known a && known b with
      | true =>
        rw [hc, cond_true, boolK_eq] at h
        simp only [Bool.and_eq_true] at hc
        refine ⟨_, h, fun ρ w d => ?_, fun op x' y' ρ w => guard (by simp [conc]) (by simp [conc]) op x' y' w⟩
        have e : ((⟨(a.map (byteC ρ)).toArray⟩ : ByteArray) == ⟨(b.map (byteC ρ)).toArray⟩) = leq a b := by
          rw [Bool.eq_iff_iff, ba_beq]; exact (leq_ok ρ a b hc.1 hc.2).symm
        simp [Op.equalIn, run_underlying hu, conc, e]
      | false =>
        rw [hc, cond_false] at h
        obtain ⟨c, h, hcc⟩ := sameK_ok h
        refine ⟨_, h, fun ρ w d => ?_, fun op x' y' ρ w => guard (by simp [conc]) (by simp [conc]) op x' y' w⟩
        have e : ((⟨(a.map (byteC ρ)).toArray⟩ : ByteArray) == ⟨(b.map (byteC ρ)).toArray⟩) = c := by
          rw [Bool.eq_iff_iff, ba_beq]; exact hcc ρ
        simp [Op.equalIn, run_underlying hu, conc, e]
    · cases h
  · rename_i el hu
    split at h
    · exact ⟨_, h, fun ρ w d => by simp only [Op.equalIn, Sem.run_bind, run_underlying hu, Result.andThen_ok, conc, Sem.run_pure, Option.isNone], fun op x' y' ρ w => guard (by simp [conc]) (by simp [conc]) op x' y' w⟩
    · exact ⟨_, h, fun ρ w d => by simp only [Op.equalIn, Sem.run_bind, run_underlying hu, Result.andThen_ok, conc, Sem.run_pure, Option.isNone], fun op x' y' ρ w => guard (by simp [conc]) (by simp [conc]) op x' y' w⟩
    · exact ⟨_, h, fun ρ w d => by simp only [Op.equalIn, Sem.run_bind, run_underlying hu, Result.andThen_ok, conc, Sem.run_pure, Option.isNone], fun op x' y' ρ w => guard (by simp [conc]) (by simp [conc]) op x' y' w⟩
    · cases h
  · rename_i el hu
    split at h
    · exact ⟨_, h, fun ρ w d => by simp only [Op.equalIn, Sem.run_bind, run_underlying hu, Result.andThen_ok, conc, Sem.run_pure, Option.isNone], fun op x' y' ρ w => guard (by simp [conc]) (by simp [conc]) op x' y' w⟩
    · exact ⟨_, h, fun ρ w d => by simp only [Op.equalIn, Sem.run_bind, run_underlying hu, Result.andThen_ok, conc, Sem.run_pure, Option.isNone], fun op x' y' ρ w => guard (by simp [conc]) (by simp [conc]) op x' y' w⟩
    · exact ⟨_, h, fun ρ w d => by simp only [Op.equalIn, Sem.run_bind, run_underlying hu, Result.andThen_ok, conc, Sem.run_pure, Option.isNone], fun op x' y' ρ w => guard (by simp [conc]) (by simp [conc]) op x' y' w⟩
    · exact ⟨_, h, fun ρ w d => by simp only [conc]; split <;> simp [Op.equalIn, run_underlying hu], fun op x' y' ρ w => guard (by simp [conc]) (by simp [conc]) op x' y' w⟩
    · cases h
  · rename_i hu
    split at h
    · exact ⟨_, h, fun ρ w d => by simp only [Op.equalIn, Sem.run_bind, run_underlying hu, Result.andThen_ok, conc, Sem.run_pure, Option.isNone], fun op x' y' ρ w => guard (by simp [conc]) (by simp [conc]) op x' y' w⟩
    · exact ⟨_, h, fun ρ w d => by simp only [Op.equalIn, Sem.run_bind, run_underlying hu, Result.andThen_ok, conc, Sem.run_pure, Option.isNone], fun op x' y' ρ w => guard (by simp [conc]) (by simp [conc]) op x' y' w⟩
    · exact ⟨_, h, fun ρ w d => by simp only [Op.equalIn, Sem.run_bind, run_underlying hu, Result.andThen_ok, conc, Sem.run_pure, Option.isNone], fun op x' y' ρ w => guard (by simp [conc]) (by simp [conc]) op x' y' w⟩
    · cases h
  · rename_i ms hu
    split at h
    · exact ⟨_, h, fun ρ w d => by simp only [Op.equalIn, Sem.run_bind, run_underlying hu, Result.andThen_ok, conc, Sem.run_pure, Option.isNone], fun op x' y' ρ w => guard (by simp [conc]) (by simp [conc]) op x' y' w⟩
    · exact ⟨_, h, fun ρ w d => by simp only [Op.equalIn, Sem.run_bind, run_underlying hu, Result.andThen_ok, conc, Sem.run_pure, Option.isNone], fun op x' y' ρ w => guard (by simp [conc]) (by simp [conc]) op x' y' w⟩
    · cases h
  · cases h

theorem evEq_ok {t : TypeId} {x y : AV} {k : Bool → Option R} (h : evEq P t x y k = some r) :
    ∃ c, k c = some r ∧ (∀ ρ w d, (Op.equalIn (d + 2) t (conc ρ x) (conc ρ y)).run P w = .ok c w) ∧ ∀ op x' y' ρ w, (eqGuard op t x' y' (conc ρ x) (conc ρ y)).run P w = .ok () w := by
  unfold evEq at h
  split at h
  · rename_i a v b u
    split at h
    · rename_i ms hu
      cases hab : Nat.beq a b with
      | true =>
        rw [hab] at h
        have e := beq_eq' hab
        subst e
        simp only [cond_true] at h
        split at h
        · rename_i i hi
          obtain ⟨hc, h⟩ := cond_some h
          obtain ⟨c, h, h1, _⟩ := eq1_ok h
          refine ⟨c, h, fun ρ w d => ?_, fun op x' y' ρ w => ?_⟩
          · have := h1 ρ w d
            simp only [conc]
            rw [Op.equalIn]
            simp [run_underlying hu, run_info hi, hc, this]
          · simp only [conc, eqGuard]; split <;> rfl
        · cases h
      | false =>
        rw [hab] at h
        have e := beq_ne' hab
        refine ⟨_, h, fun ρ w d => ?_, fun op x' y' ρ w => ?_⟩
        · simp only [conc]
          rw [Op.equalIn]
          simp [run_underlying hu, e]
        · simp only [conc, eqGuard]; split <;> rfl
    · cases h
  · obtain ⟨c, h, h1, h2⟩ := eq1_ok h
    exact ⟨c, h, fun ρ w d => h1 ρ w (d + 1), h2⟩
end
end Go.Proofs.YtnllmelmmcapcaaGreatDoor.Ev
namespace Go.Proofs.YtnllmelmmcapcaaGreatDoor.Ev
open Go Go.RowKit
set_option linter.unusedVariables false

section
variable {R : Type} {P : Program} {r : R}

theorem eqlOp {t : TypeId} {a b : Value} (ha : ∀ k n, a ≠ .int k n) (hf : ∀ k n, a ≠ .float k n) (hc : ∀ k n m, a ≠ .complex k n m) (hs : ∀ s, a ≠ .string s) :
    binOp .eql t a b = (do pure (.bool (← Op.equal t a b))) ∧ binOp .neq t a b = (do pure (.bool (!(← Op.equal t a b)))) := by
  cases a <;> first
    | exact absurd rfl (ha _ _)
    | exact absurd rfl (hf _ _)
    | exact absurd rfl (hc _ _ _)
    | exact absurd rfl (hs _)
    | (constructor <;> cases b <;> rfl)

theorem notNum_conc {ρ : Env} {x : AV} (h : notNum x = true) : (∀ k n, conc ρ x ≠ .int k n) ∧ (∀ k n, conc ρ x ≠ .float k n) ∧ (∀ k n m, conc ρ x ≠ .complex k n m) ∧ ∀ s, conc ρ x ≠ .string s := by
  cases x <;> first
    | (simp [notNum] at h; done)
    | (simp only [conc]; refine ⟨?_, ?_, ?_, ?_⟩ <;> intros <;> first | exact Value.noConfusion | (split <;> exact Value.noConfusion))

theorem evBin_ok {op : BinOp} {t : TypeId} {x y : AV} {k : AV → Option R} (h : evBin P op t x y k = some r) :
    ∃ v, k v = some r ∧ (∀ x' y' ρ w, (do eqGuard op t x' y' (conc ρ x) (conc ρ y); binOp op t (conc ρ x) (conc ρ y) : Sem Value).run P w = .ok (conc ρ v) w) ∧ ∀ n, v.lt n := by
  have guard : ∀ {a b : Value}, (∀ (h1 : a = .nilIface) (h2 : b = .nilIface), False) → (∀ c d, a = .agg c → b = .agg d → False) → ∀ op x' y' w, (eqGuard op t x' y' a b).run P w = .ok () w := fun {a b} h1 h2 op x' y' w => by
    unfold eqGuard
    cases a <;> cases b <;> first | (split <;> rfl) | exact (h1 rfl rfl).elim | exact (h2 _ _ rfl rfl).elim
  unfold evBin at h
  split at h
  · obtain ⟨v, h, h1, h2⟩ := evInt_ok (P := P) (t := t) h
    refine ⟨v, h, fun x' y' ρ w => ?_, h2⟩
    simp only [Sem.run_bind, conc]
    rw [guard (by simp) (by simp)]
    exact h1 ρ w
  · obtain ⟨v, h, h1, h2⟩ := evStr_ok (P := P) (t := t) h
    refine ⟨v, h, fun x' y' ρ w => ?_, h2⟩
    simp only [Sem.run_bind]
    rw [guard (by simp [conc]) (by simp [conc])]
    exact h1 ρ w
  · rename_i j kb b
    unfold evSymb at h
    obtain ⟨hc, h2⟩ := cond_some h
    clear h
    simp only [Bool.and_eq_true, decide_eq_true_eq] at hc
    obtain ⟨hj, rfl⟩ := hc
    obtain ⟨c, h, h1⟩ := ordK_ok (P := P) h2
    refine ⟨_, h, fun x' y' ρ w => ?_, fun n => by simp [AV.lt]⟩
    have hd := ρ.dig (blt_lt hj)
    simp only [Sem.run_bind, conc]
    rw [guard (by simp) (by simp)]
    exact h1 t _ _ w (by omega) (by omega)
  · rename_i ka a j
    unfold evSymb' at h
    obtain ⟨hc, h2⟩ := cond_some h
    clear h
    simp only [Bool.and_eq_true, decide_eq_true_eq] at hc
    obtain ⟨hj, rfl⟩ := hc
    obtain ⟨c, h, h1⟩ := ordK'_ok (P := P) h2
    refine ⟨_, h, fun x' y' ρ w => ?_, fun n => by simp [AV.lt]⟩
    have hd := ρ.dig (blt_lt hj)
    simp only [Sem.run_bind, conc]
    rw [guard (by simp) (by simp)]
    exact h1 t _ _ w (by omega) (by omega)
  · rename_i g kb b
    unfold evAge at h
    obtain ⟨hc, h2⟩ := cond_some h
    clear h
    have hc := of_decide_eq_true hc
    subst hc
    obtain ⟨c, h, h1⟩ := ordK_ok (P := P) h2
    refine ⟨_, h, fun x' y' ρ w => ?_, fun n => by simp [AV.lt]⟩
    simp only [Sem.run_bind, conc]
    rw [guard (by simp) (by simp)]
    exact h1 t _ _ w (ρ.age_bounds g).1 (ρ.age_bounds g).2
  · rename_i ka a g
    unfold evAge' at h
    obtain ⟨hc, h2⟩ := cond_some h
    clear h
    have hc := of_decide_eq_true hc
    subst hc
    obtain ⟨c, h, h1⟩ := ordK'_ok (P := P) h2
    refine ⟨_, h, fun x' y' ρ w => ?_, fun n => by simp [AV.lt]⟩
    simp only [Sem.run_bind, conc]
    rw [guard (by simp) (by simp)]
    exact h1 t _ _ w (ρ.age_bounds g).1 (ρ.age_bounds g).2
  · obtain ⟨hn, h⟩ := cond_some h
    split at h
    · obtain ⟨c, h, h1, h2⟩ := evEq_ok h
      refine ⟨_, h, fun x' y' ρ w => ?_, fun n => by simp [AV.lt]⟩
      obtain ⟨q1, q2, q3, q4⟩ := notNum_conc (ρ := ρ) hn
      have he : (Op.equal t (conc ρ x) (conc ρ y)).run P w = .ok c w := h1 ρ w 9998
      simp only [Sem.run_bind, h2 _ x' y' ρ w, Result.andThen_ok, (eqlOp q1 q2 q3 q4).1, he, Sem.run_pure, conc]
    · obtain ⟨c, h, h1, h2⟩ := evEq_ok h
      rw [boolK_eq] at h
      refine ⟨_, h, fun x' y' ρ w => ?_, fun n => by simp [AV.lt]⟩
      obtain ⟨q1, q2, q3, q4⟩ := notNum_conc (ρ := ρ) hn
      have he : (Op.equal t (conc ρ x) (conc ρ y)).run P w = .ok c w := h1 ρ w 9998
      simp only [Sem.run_bind, h2 _ x' y' ρ w, Result.andThen_ok, (eqlOp q1 q2 q3 q4).2, he, Sem.run_pure, conc]
    · cases h

theorem byteOfAV_ok {v : AV} {k : Nat → Option R} (h : byteOfAV v k = some r) : ∃ c, k c = some r ∧ ∀ ρ, conc ρ v = .int .u8 ((byteC ρ c).toNat : Int) := by
  unfold byteOfAV at h
  split at h
  · obtain ⟨hc, h⟩ := cond_some h
    exact ⟨_, h, fun ρ => by simp [conc, byteC_lt (blt_lt hc)]⟩
  · rename_i j
    rw [natK_eq] at h
    exact ⟨_, h, fun ρ => by simp [conc, byteC_ge (show ¬ j + 256 < 256 by omega)]⟩
  · cases h

theorem push_fold (l : List UInt8) : ∀ (s : ByteArray), (l.map fun c => (c.toNat : Int)).foldl (fun r n => r.push (UInt8.ofNat n.toNat)) s = ⟨s.data ++ l.toArray⟩ := by
  induction l with
  | nil => intro s; simp
  | cons c l ih =>
    intro s
    rw [List.map_cons, List.foldl_cons, ih]
    apply ByteArray.ext
    apply Array.ext'
    simp [ByteArray.push]

theorem u8K_ok {e : TypeId} {k : Option R} (h : u8K P e k = some r) : P.underlying e = some (.int .u8) ∧ k = some r := by
  unfold u8K at h
  split at h
  · exact ⟨‹_›, h⟩
  · cases h

/-- A block's mark, set behind its cells. -/
theorem Rep.freeze {ρ : Env} {H : Heap} {n : Nat} {w0 w : World} (h : Rep ρ H n w0 w) {b : Nat} {B : Blk} (hB : H.get b = some B) :
    ∃ e m, w.shape? (ρ.blk b) = some (e, m) ∧ Rep ρ H n w0 (w.freeze ⟨ρ.blk b, m, none⟩ 1) := by
  obtain ⟨cs, lo, hi, r1, r2, r3⟩ := (h.ok b B hB).row
  refine ⟨B.T, cs.size, by simp [World.shape?, r1], ?_⟩
  have hw : (w.freeze ⟨ρ.blk b, cs.size, none⟩ 1).heap = w.heap.modify (ρ.blk b) (fun | .cells c elem (lo, hi) => .cells c elem (if lo == hi then (cs.size, cs.size + 1) else (min lo cs.size, max hi (cs.size + 1))) | o => o) := rfl
  have hat : ∀ g, g ≠ ρ.blk b → (w.freeze ⟨ρ.blk b, cs.size, none⟩ 1).heap[g]? = w.heap[g]? := fun g hg => by
    rw [hw, Array.getElem?_modify, if_neg (Ne.symm hg)]
  have hb' : ∃ lo' hi', (w.freeze ⟨ρ.blk b, cs.size, none⟩ 1).heap[ρ.blk b]? = some (.cells cs B.T (lo', hi')) ∧ Fz lo' hi' cs.size := by
    rw [hw, Array.getElem?_modify, if_pos rfl, r1]
    by_cases e : lo = hi
    · exact ⟨cs.size, cs.size + 1, by simp [e], .inr ⟨Nat.le_refl _, Nat.le_succ _⟩⟩
    · have : cs.size ≤ lo ∧ lo ≤ hi := by rcases r2 with h | h; exact absurd h e; exact h
      exact ⟨min lo cs.size, max hi (cs.size + 1), by simp [e], .inr ⟨by omega, by omega⟩⟩
  refine ⟨h.lt, h.old, h.cells, fun c C hc => ?_, h.inj, ?_, fun g o hg => ?_, h.apart⟩
  · by_cases e : c = b
    · subst e
      rw [hB] at hc; cases hc
      obtain ⟨lo', hi', q1, q2⟩ := hb'
      exact ⟨cs, lo', hi', q1, q2, r3⟩
    · obtain ⟨cs', lo', hi', q1, q2⟩ := (h.ok c C hc).row
      exact ⟨cs', lo', hi', by rw [hat _ (fun e2 => e (h.inj c b C B hc hB e2))]; exact q1, q2⟩
  · have hx := h.old b B hB
    exact ⟨h.upd.os, h.upd.tape, h.upd.output, by rw [hw, Array.size_modify]; exact h.upd.size, fun k hk hkF => by rw [hat k (by omega)]; exact h.upd.block k hk hkF⟩
  · rw [hat g (fun e => by have := h.apart b B hB; rw [← e, hg] at this; cases this)]
    exact h.frame g o hg

theorem evSame_ok {src dst e ds : TypeId} {x : AV} {H : Heap} {m : Nat} {k : AV → Heap → Nat → Option R} (hs : P.underlying src = some (.slice ds)) (hd : P.underlying dst = some (.slice e)) (h : evSame P src dst e x H m k = some r) :
    ∃ v H' m', k v H' m' = some r ∧ Does P (fun ρ => convert src dst (conc ρ x)) [x] H m v H' m' := by
  unfold evSame at h
  obtain ⟨he, h1⟩ := cond_some h
  have he' := beq_eq' he
  obtain ⟨hu, h2⟩ := u8K_ok h1
  clear h h1 he
  subst he'
  have h := h2
  clear h2
  cases x with
  | sl b o len cap =>
    obtain ⟨B, hB, h⟩ := blkK_some h
    refine ⟨_, _, _, h, fun ρ w0 w hR hlt => ?_⟩
    obtain ⟨t, n, h1, h2⟩ := hR.freeze hB
    refine ⟨ρ, _, Ext.refl _ _, Nat.le_refl _, ?_, by simpa [ltAll] using hlt, h2⟩
    obtain rfl : ds = e := by rw [hs] at hd; cases hd; rfl
    simp [convert, run_underlying hs, run_underlying hu, conc, markStringish, Env.addr, h1]
  | _ => cases h

theorem evConvert_ok {src dst : TypeId} {x : AV} {H : Heap} {m : Nat} {k : AV → Heap → Nat → Option R} (h : evConvert P src dst x H m k = some r) :
    ∃ v H' m', k v H' m' = some r ∧ Does P (fun ρ => convert src dst (conc ρ x)) [x] H m v H' m' := by
  unfold evConvert at h
  obtain ⟨ds, hs, h⟩ := und_ok h
  obtain ⟨dd, hd, h⟩ := und_ok h
  cases dd with
  | int kd =>
    cases x with
    | int kx n =>
      change intK _ _ = _ at h
      rw [intK_eq] at h
      exact ⟨_, _, _, h, fun ρ w0 w hR _ => ⟨ρ, w, Ext.refl _ _, Nat.le_refl _, by simp [convert, run_underlying hs, run_underlying hd, conc, Conv.intToInt], by simp [AV.lt], hR⟩⟩
    | _ => cases h
  | slice e =>
    by_cases hsl : ∃ e', ds = .slice e'
    · obtain ⟨e', rfl⟩ := hsl
      exact evSame_ok hs hd h
    have h : evToBytes P ds e x H m k = some r := by
      cases ds with
      | slice e' => exact absurd ⟨_, rfl⟩ hsl
      | _ => exact h
    unfold evToBytes at h
    cases ds with
    | string =>
      obtain ⟨he, h⟩ := u8K_ok h
      · cases x with
        | str l =>
          change lmap _ _ _ = _ at h
          obtain ⟨cells, h, hl, hc, hlt⟩ := bytesAV_ok h
          rw [natK_eq, llen_eq] at h
          obtain ⟨H', hH, h⟩ := newK_some h
          refine ⟨_, _, _, h, fun ρ w0 w hR _ => ?_⟩
          have hrun := run_bytes_of_string (P := P) w src dst e ⟨(l.map (byteC ρ)).toArray⟩ hs hd he
          have hge := grownCap_ge w (⟨(l.map (byteC ρ)).toArray⟩ : ByteArray).size 0 e
          rw [str_size] at hrun hge
          generalize grownCap w l.length 0 e = c at *
          have hrow : (bytesRow ⟨(l.map (byteC ρ)).toArray⟩ c) = (concs ρ cells).toArray ++ Array.replicate (c - l.length) (.int .u8 0) := by
            unfold bytesRow
            rw [hc ρ, str_size]
            congr 1
            apply Array.ext'
            simp
          have hsz : (bytesRow ⟨(l.map (byteC ρ)).toArray⟩ c).size = c := by rw [hrow]; simp [concs_length, hl]; omega
          obtain ⟨ρ', e1, e2, e3, e4, e5⟩ := hR.drew.add (B := ⟨e, 1, true, cells⟩) (g := w.heap.size) (s := 0) (c := c) (w' := w.drew.alloc (.cells (bytesRow ⟨(l.map (byteC ρ)).toArray⟩ c) e ((bytesRow ⟨(l.map (byteC ρ)).toArray⟩ c).size, (bytesRow ⟨(l.map (byteC ρ)).toArray⟩ c).size + 1))) hH
            (hR.drew.upd.alloc _) hR.upd.size (hR.drew.fr_alloc _) hR.drew.fr_new (fun b B' hb => ⟨by have := hR.lt_heap hb; omega, Below.heap_alloc _ _ _ (hR.drew.lt_heap hb)⟩) ((ltAll_iff _ _).1 (hlt m))
            ⟨_, _, _, heap_alloc_new w.drew _, .inr ⟨Nat.le_refl _, Nat.le_succ _⟩, fun j v hv => by
              have hj := (List.getElem?_eq_some_iff.1 hv).1
              rw [Nat.zero_add, hrow, Array.getElem?_append_left (by rw [List.size_toArray, concs_length]; exact hj), List.getElem?_toArray, concs_get, hv]; rfl,
              fun _ => ⟨Nat.one_pos, by rw [hsz]; show 0 + c * 1 = c; omega⟩, fun e => by cases e⟩
          refine ⟨ρ', _, e1, by omega, ?_, by simp [AV.lt], e5⟩
          simp only [conc]
          rw [hrun]
          simp [Env.addr, e2, e3, e4]
        | _ => cases h
    | _ => cases h
  | string =>
    change evToStr P ds x H m k = _ at h
    unfold evToStr at h
    cases ds with
    | string =>
      cases x with
      | str l => exact ⟨_, _, _, h, fun ρ w0 w hR _ => ⟨ρ, w, Ext.refl _ _, Nat.le_refl _, by simp [convert, run_underlying hs, run_underlying hd, conc], by simp [AV.lt], hR⟩⟩
      | _ => cases h
    | slice e =>
      obtain ⟨he, h⟩ := u8K_ok h
      · have h : (lenK x fun n => showK 1 x H n fun cells => lmap (fun (v : AV) (k : Nat → Option R) => byteOfAV v k) cells fun l => k (.str l) H m) = some r ∧ ∀ l, x ≠ .str l := by
          cases x with
          | str l => cases h
          | _ => exact ⟨h, fun l => by simp⟩
        obtain ⟨h, hne⟩ := h
        have hna : ∀ j, x ≠ .any j := fun j e => by subst e; cases h
        obtain ⟨n, h, hlen⟩ := lenK_ok (P := P) h
        obtain ⟨cells, h, hl, hshow⟩ := showK_ok (P := P) h
        obtain ⟨l, h, hll, hall⟩ := lmap_some (Q := fun (v : AV) (c : Nat) => ∀ ρ, conc ρ v = .int .u8 ((byteC ρ c).toNat : Int)) (fun x _ k r hx => byteOfAV_ok hx) h
        refine ⟨_, _, _, h, fun ρ w0 w hR hlt => ⟨ρ, w, Ext.refl _ _, Nat.le_refl _, ?_, by simp [AV.lt], hR⟩⟩
        obtain ⟨c1, _⟩ := hshow ρ m w0 w hR
        have hn := hlen ρ w
        have hcs : concs ρ cells = ((l.map (byteC ρ)).map fun c => (c.toNat : Int)).map (Value.int .u8) := by
          apply List.ext_getElem?
          intro j
          simp only [concs_get, List.getElem?_map]
          rcases Nat.lt_or_ge j cells.length with hj | hj
          · have hj' : j < l.length := by omega
            rw [List.getElem?_eq_getElem hj, List.getElem?_eq_getElem hj']
            exact congrArg some (hall j _ _ (List.getElem?_eq_getElem hj) (List.getElem?_eq_getElem hj') ρ)
          · rw [List.getElem?_eq_none hj, List.getElem?_eq_none (by omega)]; rfl
        have fin : ∀ a len cap, conc ρ x = .slice a len cap → (convert src dst (conc ρ x)).run P w = .ok (conc ρ (.str l)) w := fun a len cap hx => by
          rw [hx] at hn c1 ⊢
          have hln : len = n := by simpa [Builtin.lenOf] using hn
          subst hln
          rw [run_convert_bytes_string w src dst e a len cap hs he hd]
          cases a with
          | none =>
            have hc0 : concs ρ cells = [] := by
              have : (#[] : Array Value) = (concs ρ cells).toArray := by simpa [Builtin.firstCells] using c1
              simpa using this.symm
            have hl0 : l = [] := List.eq_nil_of_length_eq_zero (by rw [hll, ← concs_length ρ, hc0]; rfl)
            subst hl0
            simp [Conv.bytesToString, conc]
            rfl
          | some a =>
            have hld : (loadCells a len).run P w = .ok (concs ρ cells).toArray w := by simpa [Builtin.firstCells] using c1
            rw [hcs] at hld
            rw [run_bytesToString w a len cap _ hld, push_fold]
            simp [conc]
        cases x with
        | sl b o len cap => exact fin (some (ρ.addr b o)) len cap (by simp only [conc])
        | slo b i es len => exact fin (some (ρ.addr b (i * es))) len (ρ.cap b - i) (by simp only [conc])
        | slz b i es l0 =>
          by_cases hc : ρ.cap b - i = l0
          · exact fin (some (ρ.addr b (i * es))) 0 0 (by simp only [conc]; rw [if_pos hc])
          · exact fin (some (ρ.addr b ((i + l0) * es))) 0 (ρ.cap b - i - l0) (by simp only [conc]; rw [if_neg hc])
        | nilsl => exact fin none 0 0 (by simp only [conc])
        | str l => exact absurd rfl (hne l)
        | any j => exact absurd rfl (hna j)
        | _ => simp [conc, Builtin.lenOf] at hn
    | _ => cases h
  | _ => cases h
end
end Go.Proofs.YtnllmelmmcapcaaGreatDoor.Ev
