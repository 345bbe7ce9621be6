/- Comparisons, conversions, assertions. -/
import Derived.Test.YtnllmelmmcapcaaGreatDoorEvOA
namespace Go.Proofs.YtnllmelmmcapcaaGreatDoor.Ev
open Go Go.RowKit
set_option linter.unusedVariables false

section
variable {R : Type} {P : Program} {r : R}

theorem ba_beq (a b : List UInt8) : ((⟨a.toArray⟩ : ByteArray) == ⟨b.toArray⟩) = true ↔ a = b := by
  have e : ((⟨a.toArray⟩ : ByteArray) == ⟨b.toArray⟩) = (a.toArray == b.toArray) := rfl
  rw [e, beq_iff_eq]
  exact ⟨fun h => by simpa using h, fun h => by rw [h]⟩

set_option maxHeartbeats 2000000 in
theorem eq1_ok {t : TypeId} {x y : AV} {k : Bool → Option R} (h : eq1 P t x y k = some r) :
    ∃ c, k c = some r ∧ (∀ ρ w d, (Op.equalIn (d + 1) t (conc ρ x) (conc ρ y)).run P w = .ok c w) ∧ ∀ op x' y' ρ w, (eqGuard op t x' y' (conc ρ x) (conc ρ y)).run P w = .ok () w := by
  have guard : ∀ {a b : Value}, (∀ (h1 : a = .nilIface) (h2 : b = .nilIface), False) → (∀ c d, a = .agg c → b = .agg d → False) → ∀ op x' y' w, (eqGuard op t x' y' a b).run P w = .ok () w := fun {a b} h1 h2 op x' y' w => by
    unfold eqGuard
    cases a <;> cases b <;> first | (split <;> rfl) | exact (h1 rfl rfl).elim | exact (h2 _ _ rfl rfl).elim
  unfold eq1 at h
  split at h
  · rename_i hu
    split at h
    · rw [boolK_eq] at h
      exact ⟨_, h, fun ρ w d => by simp only [Op.equalIn, Sem.run_bind, run_underlying hu, Result.andThen_ok, conc, Sem.run_pure, Option.isNone], fun op x' y' ρ w => guard (by simp [conc]) (by simp [conc]) op x' y' w⟩
    · cases h
  · rename_i kd hu
    split at h
    · obtain ⟨hk, h'⟩ := cond_some h
      have hk := of_decide_eq_true hk
      subst hk
      clear h
      rw [boolK_eq] at h'
      exact ⟨_, h', fun ρ w d => by simp only [Op.equalIn, Sem.run_bind, run_underlying hu, Result.andThen_ok, conc, Sem.run_pure, if_true, Option.isNone], fun op x' y' ρ w => guard (by simp [conc]) (by simp [conc]) op x' y' w⟩
    · cases h
  · rename_i hu
    split at h
    · rename_i a b
      obtain ⟨hc, h⟩ := cond_some h
      simp only [Bool.and_eq_true] at hc
      rw [boolK_eq] at h
      refine ⟨_, h, fun ρ w d => ?_, fun op x' y' ρ w => guard (by simp [conc]) (by simp [conc]) op x' y' w⟩
      have e : ((⟨(a.map (byteC ρ)).toArray⟩ : ByteArray) == ⟨(b.map (byteC ρ)).toArray⟩) = leq a b := by
        rw [Bool.eq_iff_iff, ba_beq]; exact (leq_ok ρ a b hc.1 hc.2).symm
      simp [Op.equalIn, run_underlying hu, conc, e]
    · cases h
  · rename_i el hu
    split at h
    · exact ⟨_, h, fun ρ w d => by simp only [Op.equalIn, Sem.run_bind, run_underlying hu, Result.andThen_ok, conc, Sem.run_pure, Option.isNone], fun op x' y' ρ w => guard (by simp [conc]) (by simp [conc]) op x' y' w⟩
    · exact ⟨_, h, fun ρ w d => by simp only [Op.equalIn, Sem.run_bind, run_underlying hu, Result.andThen_ok, conc, Sem.run_pure, Option.isNone], fun op x' y' ρ w => guard (by simp [conc]) (by simp [conc]) op x' y' w⟩
    · exact ⟨_, h, fun ρ w d => by simp only [Op.equalIn, Sem.run_bind, run_underlying hu, Result.andThen_ok, conc, Sem.run_pure, Option.isNone], fun op x' y' ρ w => guard (by simp [conc]) (by simp [conc]) op x' y' w⟩
    · cases h
  · rename_i el hu
    split at h
    · exact ⟨_, h, fun ρ w d => by simp only [Op.equalIn, Sem.run_bind, run_underlying hu, Result.andThen_ok, conc, Sem.run_pure, Option.isNone], fun op x' y' ρ w => guard (by simp [conc]) (by simp [conc]) op x' y' w⟩
    · exact ⟨_, h, fun ρ w d => by simp only [Op.equalIn, Sem.run_bind, run_underlying hu, Result.andThen_ok, conc, Sem.run_pure, Option.isNone], fun op x' y' ρ w => guard (by simp [conc]) (by simp [conc]) op x' y' w⟩
    · exact ⟨_, h, fun ρ w d => by simp only [Op.equalIn, Sem.run_bind, run_underlying hu, Result.andThen_ok, conc, Sem.run_pure, Option.isNone], fun op x' y' ρ w => guard (by simp [conc]) (by simp [conc]) op x' y' w⟩
    · exact ⟨_, h, fun ρ w d => by simp only [conc]; split <;> simp [Op.equalIn, run_underlying hu], fun op x' y' ρ w => guard (by simp [conc]) (by simp [conc]) op x' y' w⟩
    · cases h
  · rename_i hu
    split at h
    · exact ⟨_, h, fun ρ w d => by simp only [Op.equalIn, Sem.run_bind, run_underlying hu, Result.andThen_ok, conc, Sem.run_pure, Option.isNone], fun op x' y' ρ w => guard (by simp [conc]) (by simp [conc]) op x' y' w⟩
    · exact ⟨_, h, fun ρ w d => by simp only [Op.equalIn, Sem.run_bind, run_underlying hu, Result.andThen_ok, conc, Sem.run_pure, Option.isNone], fun op x' y' ρ w => guard (by simp [conc]) (by simp [conc]) op x' y' w⟩
    · exact ⟨_, h, fun ρ w d => by simp only [Op.equalIn, Sem.run_bind, run_underlying hu, Result.andThen_ok, conc, Sem.run_pure, Option.isNone], fun op x' y' ρ w => guard (by simp [conc]) (by simp [conc]) op x' y' w⟩
    · cases h
  · rename_i ms hu
    split at h
    · exact ⟨_, h, fun ρ w d => by simp only [Op.equalIn, Sem.run_bind, run_underlying hu, Result.andThen_ok, conc, Sem.run_pure, Option.isNone], fun op x' y' ρ w => guard (by simp [conc]) (by simp [conc]) op x' y' w⟩
    · exact ⟨_, h, fun ρ w d => by simp only [Op.equalIn, Sem.run_bind, run_underlying hu, Result.andThen_ok, conc, Sem.run_pure, Option.isNone], fun op x' y' ρ w => guard (by simp [conc]) (by simp [conc]) op x' y' w⟩
    · cases h
  · cases h

theorem evEq_ok {t : TypeId} {x y : AV} {k : Bool → Option R} (h : evEq P t x y k = some r) :
    ∃ c, k c = some r ∧ (∀ ρ w d, (Op.equalIn (d + 2) t (conc ρ x) (conc ρ y)).run P w = .ok c w) ∧ ∀ op x' y' ρ w, (eqGuard op t x' y' (conc ρ x) (conc ρ y)).run P w = .ok () w := by
  unfold evEq at h
  split at h
  · rename_i a v b u
    split at h
    · rename_i ms hu
      cases hab : Nat.beq a b with
      | true =>
        rw [hab] at h
        have e := beq_eq' hab
        subst e
        simp only [cond_true] at h
        split at h
        · rename_i i hi
          obtain ⟨hc, h⟩ := cond_some h
          obtain ⟨c, h, h1, _⟩ := eq1_ok h
          refine ⟨c, h, fun ρ w d => ?_, fun op x' y' ρ w => ?_⟩
          · have := h1 ρ w d
            simp only [conc]
            rw [Op.equalIn]
            simp [run_underlying hu, run_info hi, hc, this]
          · simp only [conc, eqGuard]; split <;> rfl
        · cases h
      | false =>
        rw [hab] at h
        have e := beq_ne' hab
        refine ⟨_, h, fun ρ w d => ?_, fun op x' y' ρ w => ?_⟩
        · simp only [conc]
          rw [Op.equalIn]
          simp [run_underlying hu, e]
        · simp only [conc, eqGuard]; split <;> rfl
    · cases h
  · obtain ⟨c, h, h1, h2⟩ := eq1_ok h
    exact ⟨c, h, fun ρ w d => h1 ρ w (d + 1), h2⟩
end
end Go.Proofs.YtnllmelmmcapcaaGreatDoor.Ev
