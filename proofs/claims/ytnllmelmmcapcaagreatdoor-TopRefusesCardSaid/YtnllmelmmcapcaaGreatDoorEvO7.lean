/- Slices cut, lengths, what a slice shows. -/
import Derived.Test.YtnllmelmmcapcaaGreatDoorEvO6
namespace Go.Proofs.YtnllmelmmcapcaaGreatDoor.Ev
open Go Go.RowKit
set_option linter.unusedVariables false

section
variable {R : Type} {P : Program} {r : R}

theorem conc_str_extract (ρ : Env) (l : List Nat) (a b : Nat) : (⟨(l.map (byteC ρ)).toArray⟩ : ByteArray).extract a b = ⟨(((l.take b).drop a).map (byteC ρ)).toArray⟩ := by
  apply ByteArray.ext
  rw [ByteArray.data_extract]
  apply Array.ext_getElem?
  intro i
  have e : ((((l.take b).drop a).map (byteC ρ)).toArray)[i]? = ((l.take b)[a + i]?).map (byteC ρ) := by rw [List.getElem?_toArray, List.getElem?_map, List.getElem?_drop]
  rw [e, Array.getElem?_extract]
  simp only [List.getElem?_toArray, List.getElem?_map, List.size_toArray, List.length_map, List.getElem?_take]
  by_cases h : i < b - a ∧ i < l.length - a
  · rw [if_pos (by omega), if_pos (by omega)]
  · by_cases h2 : a + i < b
    · rw [if_neg (by omega), if_pos h2, List.getElem?_eq_none (by omega)]; rfl
    · rw [if_neg (by omega), if_neg h2]; rfl

theorem str_size (ρ : Env) (l : List Nat) : (⟨(l.map (byteC ρ)).toArray⟩ : ByteArray).size = l.length := by simp [ByteArray.size]

theorem evSlice_ok {H : Heap} {t : TypeId} {x : AV} {lo hi mx : Option AV} {k : AV → Option R} (h : evSlice P H t x lo hi mx k = some r) :
    ∃ v, k v = some r ∧ ∀ ρ n w0 w, Rep ρ H n w0 w → (∀ w', (Instr.sliceAt t (conc ρ x) (lo.map (conc ρ)) (hi.map (conc ρ)) (mx.map (conc ρ))).run P w' = .ok (conc ρ v) w') ∧ (x.lt n → v.lt n) := by
  unfold evSlice at h
  have hx : hi = none → mx = none := fun e => by
    subst e
    cases mx with
    | none => rfl
    | some m => cases h
  have h : evSlice0 P H t x lo hi mx k = some r := by
    split at h
    · cases h
    · exact h
  unfold evSlice0 at h
  obtain ⟨d, hd, h⟩ := und_ok h
  cases d with
  | string =>
    cases x with
    | str s =>
      cases mx with
      | some m => cases h
      | none =>
        simp only [natK_eq] at h
        obtain ⟨hh, hhb, h⟩ := bound_ok h
        obtain ⟨l, hl, h⟩ := bound_ok h
        obtain ⟨hc, h⟩ := cond_some h
        simp only [Bool.and_eq_true] at hc
        have h1 := ble_le hc.1
        have h2 := ble_le hc.2
        rw [llen_eq] at h2 hhb
        rw [ltake_eq] at h
        obtain ⟨_, h⟩ := if_some h
        rw [ldrop_eq] at h
        obtain ⟨_, h⟩ := if_some h
        refine ⟨_, h, fun ρ n w0 w _ => ⟨fun w' => ?_, fun _ => by simp [AV.lt]⟩⟩
        have hb := bounds_ok (P := P) (ρ := ρ) (sl := false) (w := w') (cap := s.length) (.inl ⟨rfl, rfl⟩) hhb hl h1 h2 (Nat.le_refl _) hx
        simp only [Instr.sliceAt, Sem.run_bind, run_underlying hd, Result.andThen_ok, Instr.slice, conc, Option.map_none, Option.isSome_none, Bool.false_eq_true, if_false, Sem.run_pure, str_size]
        simp only [Option.map_none] at hb
        rw [hb]
        simp only [Result.andThen_ok, conc_str_extract]
    | _ => cases h
  | slice e =>
    obtain ⟨i, hi', h⟩ := szOf_ok h
    obtain ⟨v, h, hcut, hlt⟩ := cutSlice_ok (P := P) hx h
    refine ⟨v, h, fun ρ n w0 w hR => ⟨fun w' => ?_, hlt n⟩⟩
    obtain ⟨a, len, cap, l, hh, m, e1, e2, e3⟩ := hcut ρ n w0 w hR
    simp only [Instr.sliceAt, Sem.run_bind, run_underlying hd, Result.andThen_ok, Instr.slice, e1, e2, run_size hi', Sem.run_pure, e3]
  | array len e =>
    cases x with
    | ptr b o =>
      obtain ⟨i, hi', h⟩ := szOf_ok h
      obtain ⟨v, h, hcut, hlt⟩ := cutSlice_ok (P := P) hx h
      refine ⟨v, h, fun ρ n w0 w hR => ⟨fun w' => ?_, fun hn => hlt n (by simpa [AV.lt] using hn)⟩⟩
      obtain ⟨a, len', cap, l, hh, m, e1, e2, e3⟩ := hcut ρ n w0 w hR
      simp only [conc, Value.slice.injEq] at e1
      obtain ⟨rfl, rfl, rfl⟩ := e1
      rw [← e3]
      simp only [Instr.sliceAt, Sem.run_bind, run_underlying hd, Result.andThen_ok, Instr.sureAddr, conc, e2, run_size hi', Sem.run_pure]
      congr 2
      split <;> rfl
    | _ => cases h
  | pointer a =>
    obtain ⟨d2, hd2, h⟩ := und_ok h
    cases d2 with
    | array len e =>
      cases x with
      | ptr b o =>
        obtain ⟨i, hi', h⟩ := szOf_ok h
        obtain ⟨v, h, hcut, hlt⟩ := cutSlice_ok (P := P) hx h
        refine ⟨v, h, fun ρ n w0 w hR => ⟨fun w' => ?_, fun hn => hlt n (by simpa [AV.lt] using hn)⟩⟩
        obtain ⟨a', len', cap, l, hh, m, e1, e2, e3⟩ := hcut ρ n w0 w hR
        simp only [conc, Value.slice.injEq] at e1
        obtain ⟨rfl, rfl, rfl⟩ := e1
        rw [← e3]
        simp only [Instr.sliceAt, Sem.run_bind, run_underlying hd, run_underlying hd2, Result.andThen_ok, Instr.slice, asAddr, conc, e2, run_size hi', Sem.run_pure]
        congr 2
        split <;> rfl
      | _ => cases h
    | _ => cases h
  | _ => cases h

theorem lenK_ok {x : AV} {k : Nat → Option R} (h : lenK x k = some r) : ∃ n, k n = some r ∧ ∀ ρ w, (Builtin.lenOf (conc ρ x)).run P w = .ok n w := by
  cases x with
  | sl b o len cap => exact ⟨_, h, fun ρ w => by simp [conc, Builtin.lenOf]⟩
  | slo b i es len => exact ⟨_, h, fun ρ w => by simp [conc, Builtin.lenOf]⟩
  | slz b i es l => exact ⟨_, h, fun ρ w => by simp only [conc]; split <;> simp [Builtin.lenOf]⟩
  | nilsl => exact ⟨_, h, fun ρ w => by simp [conc, Builtin.lenOf]⟩
  | str l =>
    have h : natK (llen l) k = some r := h
    rw [natK_eq, llen_eq] at h
    exact ⟨_, h, fun ρ w => by simp [conc, Builtin.lenOf, ByteArray.size]⟩
  | _ => cases h

theorem bytesAV_ok {l : List Nat} {k : List AV → Option R} (h : lmap (fun (c : Nat) (k : AV → Option R) => byteAV c k) l k = some r) :
    ∃ vs, k vs = some r ∧ vs.length = l.length ∧ (∀ ρ, concs ρ vs = l.map fun c => Value.int .u8 ((byteC ρ c).toNat : Int)) ∧ ∀ n, ltAll n vs := by
  obtain ⟨vs, hk, hl, hall⟩ := lmap_some (Q := fun (c : Nat) (v : AV) => (∀ ρ, conc ρ v = .int .u8 ((byteC ρ c).toNat : Int)) ∧ ∀ n, v.lt n) (fun x _ k r hx => by
    obtain ⟨v, hv, h1, h2, _⟩ := byteAV_ok hx
    exact ⟨v, hv, h1, h2⟩) h
  refine ⟨vs, hk, hl, fun ρ => concs_of (by simp [hl]) fun i x y hx hy => ?_, fun n => ltAll_of hl fun i x y hx hy => (hall i x y hx hy).2 n⟩
  rw [List.getElem?_map] at hx
  cases hc : l[i]? with
  | none => rw [hc] at hx; cases hx
  | some c => rw [hc] at hx; cases hx; exact (hall i c y hc hy).1 ρ

theorem showK_ok {es n : Nat} {x : AV} {H : Heap} {k : List AV → Option R} (h : showK es x H n k = some r) :
    ∃ l, k l = some r ∧ l.length = n * es ∧ ∀ ρ m w0 w, Rep ρ H m w0 w → (Builtin.firstCells es n (conc ρ x)).run P w = .ok (concs ρ l).toArray w ∧ ltAll m l := by
  cases x with
  | sl b o len cap =>
    obtain ⟨B, l, hB, hl, hall, h⟩ := readK_some h
    refine ⟨l, h, hl, fun ρ m w0 w hR => ?_⟩
    obtain ⟨h1, h2⟩ := hR.loads (P := P) hB hall
    rw [hl] at h1
    exact ⟨by simp [conc, Builtin.firstCells, h1], h2⟩
  | slo b i e len =>
    obtain ⟨he, h⟩ := cond_some h
    have he := beq_eq' he
    subst he
    obtain ⟨B, l, hB, hl, hall, h⟩ := readK_some h
    refine ⟨l, h, hl, fun ρ m w0 w hR => ?_⟩
    obtain ⟨h1, h2⟩ := hR.loads (P := P) hB hall
    rw [hl] at h1
    exact ⟨by simp [conc, Builtin.firstCells, h1], h2⟩
  | slz b i e l0 =>
    obtain ⟨hc, h'⟩ := cond_some h
    simp only [Bool.and_eq_true] at hc
    have e1 := beq_eq' hc.1
    subst e1
    refine ⟨[], h', by simp, fun ρ m w0 w hR => ⟨?_, by simp [ltAll]⟩⟩
    simp only [conc]
    split <;> simp [Builtin.firstCells, loadCells, loadCellsFrom, concs]
  | nilsl =>
    obtain ⟨hc, h'⟩ := cond_some h
    have e1 := beq_eq' hc
    subst e1
    exact ⟨[], h', by simp, fun ρ m w0 w hR => ⟨by simp [conc, Builtin.firstCells, concs], by simp [ltAll]⟩⟩
  | str l =>
    obtain ⟨hc, h'⟩ := cond_some h
    have e1 := beq_eq' hc
    subst e1
    clear h
    rw [ltake_eq] at h'
    obtain ⟨hn, h⟩ := if_some h'
    obtain ⟨vs, h, hl, h1, h2⟩ := bytesAV_ok h
    refine ⟨vs, h, by rw [hl, List.length_take]; omega, fun ρ m w0 w hR => ⟨?_, h2 m⟩⟩
    simp only [conc, Builtin.firstCells, conc_str_extract, Sem.run_pure, h1, List.drop_zero]
    simp
    rfl
  | _ => cases h
end
end Go.Proofs.YtnllmelmmcapcaaGreatDoor.Ev
