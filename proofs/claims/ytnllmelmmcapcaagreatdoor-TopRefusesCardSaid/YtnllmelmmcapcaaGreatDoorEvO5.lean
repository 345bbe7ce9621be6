/- Fields, places, slices. -/
import Derived.Test.YtnllmelmmcapcaaGreatDoorEvO4
namespace Go.Proofs.YtnllmelmmcapcaaGreatDoor.Ev
open Go Go.RowKit
set_option linter.unusedVariables false

section
variable {R : Type} {P : Program} {r : R}

theorem lgetA {α : Type} {l : Array α} {i : Nat} {k : α → Option R} (h : lget l.toList i k = some r) : ∃ x, l[i]? = some x ∧ k x = some r := by
  rw [lget_eq, Array.getElem?_toList] at h
  cases hx : l[i]? with
  | none => rw [hx] at h; cases h
  | some x => rw [hx] at h; exact ⟨x, rfl, h⟩
theorem lgetL {α : Type} {l : List α} {i : Nat} {k : α → Option R} (h : lget l i k = some r) : ∃ x, l[i]? = some x ∧ k x = some r := by
  rw [lget_eq] at h
  cases hx : l[i]? with
  | none => rw [hx] at h; cases h
  | some x => rw [hx] at h; exact ⟨x, rfl, h⟩

theorem glob_add (g o n : Nat) : (⟨g, o, none⟩ : Addr).add n = ⟨g, o + n, none⟩ := by unfold Addr.add; split <;> simp_all

/-- A value that only the operands make. -/
def Pure (P : Program) (s : Env → Sem Value) (v : AV) (xs : List AV) : Prop := (∀ ρ w, (s ρ).run P w = .ok (conc ρ v) w) ∧ ∀ n, ltAll n xs → v.lt n

theorem evField_ok {t : TypeId} {x : AV} {f : Nat} {k : AV → Option R} (h : evField P t x f k = some r) :
    ∃ v, k v = some r ∧ Pure P (fun ρ => Instr.field t (conc ρ x) f) v [x] := by
  unfold evField at h
  split at h
  · rename_i l
    obtain ⟨d, hd, h⟩ := und_ok h
    split at h
    · rename_i fs
      obtain ⟨fd, hf, h⟩ := lgetA h
      rw [natK_eq] at h
      obtain ⟨v, h, h1, h2⟩ := partK_ok h
      exact ⟨v, h, fun ρ w => by simp [Instr.field, run_underlying hd, hf, conc, asAgg, h1], fun n hn => h2 n (by simpa [ltAll, AV.lt] using hn)⟩
    · cases h
  · cases h

theorem evFieldAddr_ok {t : TypeId} {x : AV} {f : Nat} {k : AV → Option R} (h : evFieldAddr P t x f k = some r) :
    ∃ v, k v = some r ∧ Pure P (fun ρ => Instr.fieldAt t (conc ρ x) f) v [x] := by
  unfold evFieldAddr at h
  obtain ⟨d, hd, h⟩ := und_ok h
  split at h
  · rename_i fs
    obtain ⟨fd, hf, h⟩ := lgetA h
    obtain ⟨i, hi, h⟩ := szOf_ok h
    cases hz : Nat.beq i.size 0 with
    | true => rw [hz] at h; cases h
    | false =>
      rw [hz] at h
      simp only [cond_false] at h
      have hne : ¬ i.size = 0 := beq_ne' hz
      split at h
      · rename_i b o
        rw [natK_eq] at h
        exact ⟨_, h, fun ρ w => by simp [Instr.fieldAt, run_underlying hd, hf, conc, Instr.sureAddr, fieldPlace, run_size hi, hne, addr_add'], fun n hn => by simpa [ltAll, AV.lt] using hn⟩
      · rename_i g o
        rw [natK_eq] at h
        exact ⟨_, h, fun ρ w => by simp [Instr.fieldAt, run_underlying hd, hf, conc, Instr.sureAddr, fieldPlace, run_size hi, hne, glob_add], fun n hn => by simp [AV.lt]⟩
      · cases h
  · cases h

theorem evIndexAddr_ok {t : TypeId} {x i : AV} {k : AV → Option R} (h : evIndexAddr P t x i k = some r) :
    ∃ v, k v = some r ∧ Pure P (fun ρ => Instr.indexAt t (conc ρ x) (conc ρ i)) v [x, i] := by
  unfold evIndexAddr at h
  split at h
  · rename_i kd j
    obtain ⟨d, hd, h⟩ := und_ok h
    split at h
    · rename_i len e
      obtain ⟨hlt, h⟩ := cond_some h
      have hlt := blt_lt hlt
      have hin : (0 : Int) ≤ Int.ofNat j ∧ Int.ofNat j < (len : Int) := by simp; omega
      obtain ⟨ti, hi, h⟩ := szOf_ok h
      split at h
      · rename_i b o
        rw [natK_eq] at h
        exact ⟨_, h, fun ρ w => by simp [Instr.indexAt, run_underlying hd, conc, asIntOf, Instr.sureAddr, hlt, run_size hi, addr_add'], fun n hn => by simpa [ltAll, AV.lt] using hn⟩
      · rename_i g o
        rw [natK_eq] at h
        exact ⟨_, h, fun ρ w => by simp [Instr.indexAt, run_underlying hd, conc, asIntOf, Instr.sureAddr, hlt, run_size hi, glob_add], fun n hn => by simp [AV.lt]⟩
      · cases h
    · rename_i e
      obtain ⟨ti, hi, h⟩ := szOf_ok h
      split at h
      · rename_i b o len cap
        obtain ⟨hlt, h⟩ := cond_some h
        have hlt := blt_lt hlt
        rw [natK_eq] at h
        exact ⟨_, h, fun ρ w => by simp [Instr.indexAt, run_underlying hd, conc, asIntOf, hlt, run_size hi, addr_add'], fun n hn => by simpa [ltAll, AV.lt] using hn⟩
      · rename_i b jj es len
        obtain ⟨hlt, h⟩ := cond_some h
        simp only [Bool.and_eq_true] at hlt
        have hes := beq_eq' hlt.2
        have hlt := blt_lt hlt.1
        rw [natK_eq] at h
        exact ⟨_, h, fun ρ w => by simp [Instr.indexAt, run_underlying hd, conc, asIntOf, hlt, run_size hi, addr_add', hes, Nat.add_mul], fun n hn => by simpa [ltAll, AV.lt] using hn⟩
      · cases h
    · cases h
  · cases h

theorem byteC_lt {ρ : Env} {c : Nat} (h : c < 256) : (byteC ρ c).toNat = c := by
  unfold byteC; rw [if_pos h]; exact UInt8.toNat_ofNat_of_lt' h
theorem byteC_ge {ρ : Env} {c : Nat} (h : ¬ c < 256) : byteC ρ c = ρ.byte (c - 256) := by unfold byteC; rw [if_neg h]

theorem byteAV_ok {c : Nat} {k : AV → Option R} (h : byteAV c k = some r) : ∃ v, k v = some r ∧ (∀ ρ, conc ρ v = .int .u8 ((byteC ρ c).toNat : Int)) ∧ (∀ n, v.lt n) ∧ scal v = true := by
  unfold byteAV at h
  cases hc : Nat.blt c 256 with
  | true =>
    rw [hc] at h
    exact ⟨_, h, fun ρ => by simp [conc, byteC_lt (blt_lt hc)], fun n => by simp [AV.lt], rfl⟩
  | false =>
    rw [hc] at h
    rw [cond_false, natK_eq] at h
    have hn : ¬ c < 256 := fun e => by
      have : Nat.blt c 256 = true := Nat.ble_eq_true_of_le e
      rw [this] at hc; cases hc
    exact ⟨_, h, fun ρ => by simp [conc, byteC_ge hn], fun n => by simp [AV.lt], rfl⟩

theorem evIndex_ok {t : TypeId} {x i : AV} {k : AV → Option R} (h : evIndex P t x i k = some r) :
    ∃ v, k v = some r ∧ Pure P (fun ρ => Instr.index t (conc ρ x) (conc ρ i)) v [x, i] := by
  unfold evIndex at h
  split at h
  · rename_i kd j
    split at h
    · rename_i l
      obtain ⟨d, hd, h⟩ := und_ok h
      split at h
      · rename_i len e
        obtain ⟨hlt, h⟩ := cond_some h
        have hlt := blt_lt hlt
        obtain ⟨ti, hi, h⟩ := szOf_ok h
        rw [natK_eq] at h
        obtain ⟨v, h, h1, h2⟩ := partK_ok h
        exact ⟨v, h, fun ρ w => by simp [Instr.index, run_underlying hd, conc, asIntOf, hlt, run_size hi, h1], fun n hn => h2 n (by simpa [ltAll, AV.lt] using hn)⟩
      · cases h
    · rename_i l
      obtain ⟨d, hd, h⟩ := und_ok h
      split at h
      · obtain ⟨c, hc, h⟩ := lgetL h
        have h : byteAV c k = some r := h
        obtain ⟨v, h, h1, h2, _⟩ := byteAV_ok h
        refine ⟨v, h, fun ρ w => ?_, fun n _ => h2 n⟩
        have hs : (⟨(l.map (byteC ρ)).toArray⟩ : ByteArray)[j]? = some (byteC ρ c) := by
          have hj := (List.getElem?_eq_some_iff.1 hc).1
          have : j < (⟨(l.map (byteC ρ)).toArray⟩ : ByteArray).size := by simpa [ByteArray.size] using hj
          rw [getElem?_pos (⟨(l.map (byteC ρ)).toArray⟩ : ByteArray) j this]
          congr 1
          have h3 : (l.map (byteC ρ))[j]? = some (byteC ρ c) := by rw [List.getElem?_map, hc]; rfl
          have h4 := (List.getElem?_eq_some_iff.1 h3).2
          simpa [ByteArray.getElem_eq_getElem_data] using h4
        rw [h1]
        simp [Instr.index, run_underlying hd, conc, asIntOf, hs]
      · cases h
    · cases h
  · cases h
end
end Go.Proofs.YtnllmelmmcapcaaGreatDoor.Ev
