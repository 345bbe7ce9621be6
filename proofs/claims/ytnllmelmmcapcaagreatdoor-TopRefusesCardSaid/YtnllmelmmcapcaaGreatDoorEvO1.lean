/- Operands, constants, loads, stores, boxes: what the evaluator says of them holds in every world that its memory tells of. -/
import Derived.Test.YtnllmelmmcapcaaGreatDoorEvM
namespace Go.Proofs.YtnllmelmmcapcaaGreatDoor.Ev
open Go
set_option linter.unusedVariables false

section
variable {R : Type} {P : Program} {r : R}

theorem concs_of {ρ : Env} {ys : List AV} {l : List Value} (hl : ys.length = l.length) (h : ∀ (i : Nat) x y, l[i]? = some x → ys[i]? = some y → conc ρ y = x) : concs ρ ys = l := by
  rw [concs_eq]
  apply List.ext_getElem?
  intro i
  rw [List.getElem?_map]
  rcases Nat.lt_or_ge i l.length with hi | hi
  · have hi' : i < ys.length := by omega
    rw [List.getElem?_eq_getElem hi, List.getElem?_eq_getElem hi']
    exact congrArg some (h i _ _ (List.getElem?_eq_getElem hi) (List.getElem?_eq_getElem hi'))
  · rw [List.getElem?_eq_none hi, List.getElem?_eq_none (by omega)]; rfl

theorem ltAll_of {n : Nat} {ys : List AV} {α : Type} {l : List α} (hl : ys.length = l.length) (h : ∀ (i : Nat) x y, l[i]? = some x → ys[i]? = some y → y.lt n) : ltAll n ys := by
  rw [ltAll_iff]
  intro v hv
  obtain ⟨i, hi⟩ := List.getElem?_of_mem hv
  have hi' : i < l.length := by have := (List.getElem?_eq_some_iff.1 hi).1; omega
  exact h i _ v (List.getElem?_eq_getElem hi') hi

theorem byteC_toNat (ρ : Env) (b : UInt8) : byteC ρ b.toNat = b := by
  unfold byteC
  rw [if_pos b.toNat_lt]
  exact UInt8.ofNat_toNat

theorem bytesK_eq (s : ByteArray) (k : List Nat → Option R) : bytesK s k = k (s.data.toList.map (·.toNat)) := by
  unfold bytesK
  exact lmap_fun (fun x _ k => natK_eq _ _) k

theorem conc_bytes (ρ : Env) (s : ByteArray) : conc ρ (.str (s.data.toList.map (·.toNat))) = .string s := by
  simp only [conc, List.map_map]
  have : (byteC ρ ∘ fun (b : UInt8) => b.toNat) = id := by funext b; exact byteC_toNat ρ b
  rw [this, List.map_id, Array.toArray_toList]

def Const (v : Value) (av : AV) : Prop := (∀ ρ, conc ρ av = v) ∧ ∀ n, av.lt n

theorem const1_ok {v : Value} {k : AV → Option R} (h : const1 v k = some r) : ∃ av, k av = some r ∧ Const v av := by
  unfold const1 at h
  split at h
  · rw [boolK_eq] at h; exact ⟨_, h, fun ρ => by simp [conc], fun n => by simp [AV.lt]⟩
  · rw [intK_eq] at h; exact ⟨_, h, fun ρ => by simp [conc], fun n => by simp [AV.lt]⟩
  · rw [bytesK_eq] at h; exact ⟨_, h, fun ρ => conc_bytes ρ _, fun n => by simp [AV.lt]⟩
  · exact ⟨_, h, fun ρ => by simp [conc], fun n => by simp [AV.lt]⟩
  · exact ⟨_, h, fun ρ => by simp [conc], fun n => by simp [AV.lt]⟩
  · exact ⟨_, h, fun ρ => by simp [conc], fun n => by simp [AV.lt]⟩
  · exact ⟨_, h, fun ρ => by simp [conc], fun n => by simp [AV.lt]⟩
  · cases h

theorem consts_ok {l : List Value} {k : List AV → Option R} (h : lmap (fun v (k : AV → Option R) => const1 v k) l k = some r) : ∃ ys, k ys = some r ∧ (∀ ρ, concs ρ ys = l) ∧ ∀ n, ltAll n ys := by
  obtain ⟨ys, hk, hl, hall⟩ := lmap_some (Q := Const) (fun x _ k r hx => const1_ok hx) h
  exact ⟨ys, hk, fun ρ => concs_of hl fun i x y hx hy => (hall i x y hx hy).1 ρ, fun n => ltAll_of hl fun i x y hx hy => (hall i x y hx hy).2 n⟩

theorem constK_ok {v : Value} {k : AV → Option R} (h : constK v k = some r) : ∃ av, k av = some r ∧ Const v av := by
  unfold constK at h
  split at h
  · obtain ⟨ys, hk, h1, h2⟩ := consts_ok h
    exact ⟨_, hk, fun ρ => by simp [conc, h1 ρ], fun n => by simpa [AV.lt] using h2 n⟩
  · obtain ⟨ys, hk, h1, h2⟩ := consts_ok h
    exact ⟨_, hk, fun ρ => by simp [conc, h1 ρ], fun n => by simpa [AV.lt] using h2 n⟩
  · exact const1_ok h

/-- What an operand is. -/
def Opd (tm : Tr AV) (x : Operand) (v : AV) : Prop := ∀ ρ n N a, RepT ρ n N tm a → a.eval x = conc ρ v ∧ v.lt n

theorem opd_ok {x : Operand} {tm : Tr AV} {k : AV → Option R} (h : opd x tm k = some r) : ∃ v, k v = some r ∧ Opd tm x v := by
  unfold opd at h
  split at h
  · rename_i t
    rw [tget_eq] at h
    cases hv : tm.get t with
    | none => rw [hv] at h; cases h
    | some v =>
      rw [hv] at h
      refine ⟨v, h, fun ρ n N a hT => ?_⟩
      obtain ⟨h1, h2⟩ := hT.tmp t v hv
      exact ⟨by simp [Act.eval, Array.getD_eq_getD_getElem?, h2], h1⟩
  · obtain ⟨av, hk, h1, h2⟩ := constK_ok h
    exact ⟨av, hk, fun ρ n N a _ => ⟨by simp [Act.eval, h1], h2 n⟩⟩
  · exact ⟨_, h, fun ρ n N a _ => ⟨by simp [Act.eval, conc], by simp [AV.lt]⟩⟩
  · exact ⟨_, h, fun ρ n N a _ => ⟨by simp [Act.eval, conc, concs], by simp [AV.lt, ltAll]⟩⟩

theorem opds_ok {l : List Operand} {tm : Tr AV} {k : List AV → Option R} (h : opds l tm k = some r) :
    ∃ vs, k vs = some r ∧ vs.length = l.length ∧ ∀ ρ n N a, RepT ρ n N tm a → l.map a.eval = concs ρ vs ∧ ltAll n vs := by
  unfold opds at h
  obtain ⟨ys, hk, hl, hall⟩ := lmap_some (Q := Opd tm) (fun x _ k r hx => opd_ok hx) h
  refine ⟨ys, hk, hl, fun ρ n N a hT => ⟨?_, ltAll_of hl fun i x y hx hy => (hall i x y hx hy ρ n N a hT).2⟩⟩
  refine (concs_of (by simp [hl]) fun i x y hx hy => ?_).symm
  rw [List.getElem?_map] at hx
  cases hx' : l[i]? with
  | none => rw [hx'] at hx; cases hx
  | some x' => rw [hx'] at hx; cases hx; exact (hall i x' y hx' hy ρ n N a hT).1.symm

theorem opdO_ok {x : Option Operand} {tm : Tr AV} {k : Option AV → Option R} (h : opdO x tm k = some r) :
    ∃ v, k v = some r ∧ ∀ ρ n N a, RepT ρ n N tm a → x.map a.eval = v.map (conc ρ) ∧ ∀ u, v = some u → u.lt n := by
  unfold opdO at h
  split at h
  · exact ⟨_, h, fun ρ n N a _ => ⟨rfl, fun u hu => by cases hu⟩⟩
  · obtain ⟨v, hk, hv⟩ := opd_ok h
    exact ⟨_, hk, fun ρ n N a hT => ⟨by simp [(hv ρ n N a hT).1], fun u hu => by cases hu; exact (hv ρ n N a hT).2⟩⟩

theorem opdP_ok {l : List (Nat × Operand)} {tm : Tr AV} {k : List (Nat × AV) → Option R} (h : opdP l tm k = some r) :
    ∃ vs, k vs = some r ∧ ∀ ρ n N a, RepT ρ n N tm a → l.map (fun x => (x.1, a.eval x.2)) = vs.map (fun x => (x.1, conc ρ x.2)) ∧ ∀ x ∈ vs, x.2.lt n := by
  unfold opdP at h
  obtain ⟨ys, hk, hl, hall⟩ := lmap_some (Q := fun (x : Nat × Operand) (y : Nat × AV) => y.1 = x.1 ∧ Opd tm x.2 y.2) (fun x _ k r hx => by
    obtain ⟨v, hv, hq⟩ := opd_ok hx
    rw [natK_eq] at hv
    exact ⟨_, hv, rfl, hq⟩) h
  refine ⟨ys, hk, fun ρ n N a hT => ⟨?_, fun x hx => ?_⟩⟩
  · apply List.ext_getElem?
    intro i
    rw [List.getElem?_map, List.getElem?_map]
    rcases Nat.lt_or_ge i l.length with hi | hi
    · have hi' : i < ys.length := by omega
      have hq := hall i _ _ (List.getElem?_eq_getElem hi) (List.getElem?_eq_getElem hi')
      rw [List.getElem?_eq_getElem hi, List.getElem?_eq_getElem hi']
      simp only [Option.map_some, hq.1, (hq.2 ρ n N a hT).1]
    · rw [List.getElem?_eq_none hi, List.getElem?_eq_none (by omega)]; rfl
  · obtain ⟨i, hi⟩ := List.getElem?_of_mem hx
    have hi' : i < l.length := by have := (List.getElem?_eq_some_iff.1 hi).1; omega
    exact ((hall i _ x (List.getElem?_eq_getElem hi') hi).2 ρ n N a hT).2

/-! ### Types -/

theorem und_ok {t : TypeId} {k : TypeDesc → Option R} (h : und P t k = some r) : ∃ d, P.underlying t = some d ∧ k d = some r := by
  unfold und at h
  split at h
  · exact ⟨_, ‹_›, h⟩
  · cases h
theorem szOf_ok {t : TypeId} {k : Nat → Option R} (h : szOf P t k = some r) : ∃ i, P.info? t = some i ∧ k i.size = some r := by
  unfold szOf at h
  split at h
  · rw [natK_eq] at h; exact ⟨_, ‹_›, h⟩
  · cases h
theorem zeroOf_ok {t : TypeId} {k : AV → Option R} (h : zeroOf P t k = some r) : ∃ i z av, P.info? t = some i ∧ i.zero = some z ∧ k av = some r ∧ Const z av := by
  unfold zeroOf at h
  split at h
  · split at h
    · obtain ⟨av, hk, hc⟩ := constK_ok h
      exact ⟨_, _, av, ‹_›, ‹_›, hk, hc⟩
    · cases h
  · cases h
theorem aggK_ok {t : TypeId} {k : Bool → Option R} (h : aggK P t k = some r) : ∃ b, (∀ w, (isAgg t).run P w = .ok b w) ∧ k b = some r := by
  unfold aggK at h
  split at h
  · exact ⟨true, fun w => by simp [isAgg, run_underlying ‹_›], h⟩
  · exact ⟨true, fun w => by simp [isAgg, run_underlying ‹_›], h⟩
  · rename_i d hns hna hd
    refine ⟨false, fun w => ?_, h⟩
    simp only [isAgg, Sem.run_bind, run_underlying hd, Result.andThen_ok]
    rfl
  · cases h
theorem run_info {t : TypeId} {i : TypeInfo} (h : P.info? t = some i) (w : World) : (typeInfo t).run P w = .ok i w := by simp [typeInfo, h]
theorem run_size {t : TypeId} {i : TypeInfo} (h : P.info? t = some i) (w : World) : (sizeOf t).run P w = .ok i.size w := by simp [sizeOf, run_info h]
theorem run_zero {t : TypeId} {i : TypeInfo} {z : Value} (h : P.info? t = some i) (hz : i.zero = some z) (w : World) : (zeroValue t).run P w = .ok z w := by simp [zeroValue, run_info h, hz]

theorem cellsK_ok {v : AV} {k : List AV → Option R} (h : cellsK v k = some r) : ∃ l, k l = some r ∧ (∀ ρ, (conc ρ v).cells = (concs ρ l).toArray) ∧ ∀ n, v.lt n → ltAll n l := by
  cases v with
  | agg l => exact ⟨_, h, fun ρ => by simp [conc, Value.cells], fun n hn => by simpa [AV.lt] using hn⟩
  | tup l => cases h
  | any j => cases h
  | slz b i es l => exact ⟨_, h, fun ρ => by simp only [conc, concs]; split <;> rfl, fun n hn => by simpa [ltAll] using hn⟩
  | _ => exact ⟨_, h, fun ρ => by simp [conc, concs, Value.cells], fun n hn => by simpa [ltAll] using hn⟩
end
end Go.Proofs.YtnllmelmmcapcaaGreatDoor.Ev
