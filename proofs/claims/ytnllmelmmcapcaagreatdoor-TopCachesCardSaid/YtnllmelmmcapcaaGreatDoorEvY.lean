/- Equality of structs, of nil interfaces; assertions of types. -/
import Derived.Test.YtnllmelmmcapcaaGreatDoorEvC
namespace Go.Proofs.YtnllmelmmcapcaaGreatDoor.Ev
open Go Go.RowKit
set_option linter.unusedVariables false

section
variable {R : Type} {P : Program} {G : Gl} {r : R}

/-- What an equality of type t comes to, at whatever depth from m on. -/
def EqDoes (P : Program) (m : Nat) (t : TypeId) (x y : AV) (b : Bool) : Prop := ∀ ρ w d, m ≤ d → (Op.equalIn d t (conc ρ x) (conc ρ y)).run P w = .ok b w

theorem eqFields_ok {m : Nat} {ih : TypeId → AV → AV → (Bool → Option R) → Option R} (hih : ∀ t x y k, ih t x y k = some r → ∃ b, k b = some r ∧ EqDoes P m t x y b) (xs ys : List AV) :
    ∀ (fs : List Field) {k : Bool → Option R}, eqFields P ih xs ys fs k = some r → ∃ b, k b = some r ∧ ∀ ρ w d, m ≤ d → (Op.eqFields d (concs ρ xs).toArray (concs ρ ys).toArray fs).run P w = .ok b w
  | [], k, h => ⟨true, h, fun ρ w d _ => rfl⟩
  | f :: fs, k, h => by
    have h : cond (f.name == "_") none (natK f.offset fun off => partK P f.type xs off fun a => partK P f.type ys off fun b => ih f.type a b fun c => cond c (eqFields P ih xs ys fs k) (k false)) = some r := h
    cases hn : f.name == "_" with
    | true => rw [hn] at h; cases h
    | false =>
      rw [hn, cond_false, natK_eq] at h
      have hn' : f.name ≠ "_" := by simpa using hn
      obtain ⟨a, h, ha, _⟩ := partK_ok h
      obtain ⟨b, h, hb, _⟩ := partK_ok h
      obtain ⟨c, h, hc⟩ := hih _ _ _ _ h
      have e : ∀ ρ w d, m ≤ d → (Op.eqFields d (concs ρ xs).toArray (concs ρ ys).toArray (f :: fs)).run P w = (if c = true then (Op.eqFields d (concs ρ xs).toArray (concs ρ ys).toArray fs).run P w else .ok false w) := fun ρ w d hd => by
        rw [Op.eqFields, if_pos hn']
        simp only [Sem.run_bind, ha ρ w, hb ρ w, hc ρ w d hd, Result.andThen_ok, Sem.run_ite, Sem.run_pure]
        cases c <;> simp
      cases c with
      | true =>
        obtain ⟨b', hk, hall⟩ := eqFields_ok hih xs ys fs h
        exact ⟨b', hk, fun ρ w d hd => by rw [e ρ w d hd, if_pos rfl]; exact hall ρ w d hd⟩
      | false => exact ⟨false, h, fun ρ w d hd => by rw [e ρ w d hd]; simp⟩

theorem eqTy_ok : ∀ (fuel : Nat) (t : TypeId) (x y : AV) (k : Bool → Option R), eqTy P fuel t x y k = some r → ∃ b, k b = some r ∧ EqDoes P fuel t x y b
  | 0, t, x, y, k, h => by cases h
  | fuel + 1, t, x, y, k, h => by
    have one : ∀ {c : Bool}, (∀ ρ w d, (Op.equalIn (d + 1) t (conc ρ x) (conc ρ y)).run P w = .ok c w) → EqDoes P (fuel + 1) t x y c := fun hc ρ w d hd => by
      obtain ⟨d', rfl⟩ : ∃ d', d = d' + 1 := ⟨d - 1, by omega⟩
      exact hc ρ w d'
    by_cases hagg : ∃ xs ys, x = .agg xs ∧ y = .agg ys
    · obtain ⟨xs, ys, rfl, rfl⟩ := hagg
      have h : (und P t fun d => (match d with
        | .struct fs => cond (P.stoodInHeld t) none (eqFields P (eqTy P fuel) xs ys fs.toList k)
        | _ => none)) = some r := h
      obtain ⟨d, hd, h⟩ := und_ok h
      cases d with
      | struct fs =>
        cases hs : P.stoodInHeld t with
        | true => simp only [hs] at h; cases h
        | false =>
          simp only [hs, cond_false] at h
          obtain ⟨b, hk, hall⟩ := eqFields_ok (eqTy_ok fuel) xs ys fs.toList h
          refine ⟨b, hk, fun ρ w d hd' => ?_⟩
          obtain ⟨d', rfl⟩ : ∃ d', d = d' + 1 := ⟨d - 1, by omega⟩
          have hf : P.fieldsOf t = fs := by unfold Program.fieldsOf; rw [hd]
          simp only [conc]
          rw [run_equalIn_struct w d' t _ _ (by rw [hf]; exact hd) hs, hf]
          exact hall ρ w d' (by omega)
      | _ => cases h
    · have h : eq1 P t x y k = some r := by
        cases x with
        | agg xs => cases y with
          | agg ys => exact absurd ⟨_, _, rfl, rfl⟩ hagg
          | _ => exact h
        | _ => exact h
      obtain ⟨c, hk, hc, _⟩ := eq1_ok h
      exact ⟨c, hk, one hc⟩

theorem evBin2_ok {op : BinOp} {t : TypeId} {x y : Operand} {a b : AV} {k : AV → Option R} (h : evBin2 P op t x y a b k = some r) :
    ∃ v, k v = some r ∧ (∀ ρ w, (do eqGuard op t x y (conc ρ a) (conc ρ b); binOp op t (conc ρ a) (conc ρ b) : Sem Value).run P w = .ok (conc ρ v) w) ∧ ∀ n, v.lt n := by
  unfold evBin2 at h
  split at h
  · obtain ⟨hc, h⟩ := cond_some h
    have guard : ∀ w, (eqGuard op t x y .nilIface .nilIface).run P w = .ok () w := fun w => by
      cases x with
      | const v => cases op <;> rfl
      | _ => cases y with
        | const v => cases op <;> rfl
        | _ => cases hc
    have nils : ∀ {ms}, P.underlying t = some (.interface ms) → ∀ w, (Op.equal t .nilIface .nilIface).run P w = .ok true w := fun {ms} hd w => by
      have key : ∀ d, (Op.equalIn (d + 1) t .nilIface .nilIface).run P w = .ok true w := fun d => by simp [Op.equalIn, run_underlying hd]
      exact key 9999
    split at h
    · unfold isIf at h
      obtain ⟨d, hd, h⟩ := und_ok h
      cases d with
      | interface ms =>
        refine ⟨_, h, fun ρ w => ?_, fun n => by simp [AV.lt]⟩
        simp only [Sem.run_bind, conc, guard, Result.andThen_ok, binOp, nils hd, Sem.run_pure]
      | _ => cases h
    · unfold isIf at h
      obtain ⟨d, hd, h⟩ := und_ok h
      cases d with
      | interface ms =>
        refine ⟨_, h, fun ρ w => ?_, fun n => by simp [AV.lt]⟩
        simp only [Sem.run_bind, conc, guard, Result.andThen_ok, binOp, nils hd, Sem.run_pure, Bool.not_true]
      | _ => cases h
    · cases h
  · rename_i xs ys
    cases hg : P.eqGuardType P.depth t with
    | true => rw [hg] at h; cases h
    | false =>
      rw [hg, cond_false] at h
      split at h
      · obtain ⟨c, h, hc⟩ := eqTy_ok 16 _ _ _ _ h
        refine ⟨_, h, fun ρ w => ?_, fun n => by simp [AV.lt]⟩
        have := hc ρ w 10000 (by omega)
        simp only [conc] at this
        simp only [Sem.run_bind, conc, run_eqGuard_agg w _ t x y _ _ hg, Result.andThen_ok, run_eql_struct, this]
      · obtain ⟨c, h, hc⟩ := eqTy_ok 16 _ _ _ _ h
        rw [boolK_eq] at h
        refine ⟨_, h, fun ρ w => ?_, fun n => by simp [AV.lt]⟩
        have := hc ρ w 10000 (by omega)
        simp only [conc] at this
        simp only [Sem.run_bind, conc, run_eqGuard_agg w _ t x y _ _ hg, Result.andThen_ok, run_neq_struct, this]
      · cases h
  · obtain ⟨v, h, h1, h2⟩ := evBin_ok h
    exact ⟨v, h, fun ρ w => h1 _ _ ρ w, h2⟩

theorem evAssert_ok {x : AV} {t a : TypeId} {ok : Bool} {k : AV → Option R} (h : evAssert P x a ok k = some r) :
    ∃ v, k v = some r ∧ (∀ ρ w, (Instr.typeAssert (conc ρ x) t a ok).run P w = .ok (conc ρ v) w) ∧ ∀ n, x.lt n → v.lt n := by
  unfold evAssert at h
  obtain ⟨hok, h⟩ := cond_some h
  subst hok
  cases x with
  | iface t' v =>
    obtain ⟨d, hd, h⟩ := und_ok h
    cases d with
    | interface want =>
      simp only at h
      split at h
      · rename_i i hi
        cases hl : (lacking want i.methods).isEmpty with
        | true =>
          rw [hl, cond_true] at h
          refine ⟨_, h, fun ρ w => ?_, fun n hn => by simpa [AV.lt, ltAll] using hn⟩
          simp only [conc, concs]
          exact run_typeAssert_has hd hi (List.isEmpty_iff.1 hl)
        | false =>
          rw [hl, cond_false] at h
          obtain ⟨j, z, av, hj, hz, h, hc⟩ := zeroOf_ok h
          refine ⟨_, h, fun ρ w => ?_, fun n hn => by simp [AV.lt, ltAll, hc.2 n]⟩
          simp only [conc, concs, hc.1]
          exact run_typeAssert_lacks hd hi hj hz (fun e => by rw [e] at hl; cases hl)
      · cases h
    | _ =>
      simp only at h
      cases he : Nat.beq t' a with
      | true =>
        rw [he, cond_true] at h
        have he' := beq_eq' he
        refine ⟨_, h, fun ρ w => ?_, fun n hn => by simpa [AV.lt, ltAll] using hn⟩
        simp [Instr.typeAssert, run_underlying hd, conc, concs, he']
      | false =>
        rw [he, cond_false] at h
        have he' := beq_ne' he
        obtain ⟨j, z, av, hj, hz, h, hc⟩ := zeroOf_ok h
        refine ⟨_, h, fun ρ w => ?_, fun n hn => by simp [AV.lt, ltAll, hc.2 n]⟩
        simp [Instr.typeAssert, run_underlying hd, conc, concs, he', hc.1, run_zero hj hz]
  | nilif =>
    obtain ⟨d, hd, h⟩ := und_ok h
    obtain ⟨j, z, av, hj, hz, h, hc⟩ := zeroOf_ok h
    refine ⟨_, h, fun ρ w => ?_, fun n hn => by simp [AV.lt, ltAll, hc.2 n]⟩
    cases d <;> simp [Instr.typeAssert, run_underlying hd, conc, concs, hc.1, run_zero hj hz]
  | _ => cases h
end
end Go.Proofs.YtnllmelmmcapcaaGreatDoor.Ev
