/- Slices cut. -/
import Derived.Test.YtnllmelmmcapcaaGreatDoorEvO5
namespace Go.Proofs.YtnllmelmmcapcaaGreatDoor.Ev
open Go Go.RowKit
set_option linter.unusedVariables false

section
variable {R : Type} {P : Program} {r : R}

/-- A bound as it stands at the operation. -/
def Bnd (x : Option AV) (d m : Nat) : Prop := (x = none ∧ m = d) ∨ ∃ kd, x = some (.int kd (.ofNat m))

theorem bound_ok {x : Option AV} {d : Nat} {k : Nat → Option R} (h : bound x d k = some r) : ∃ m, Bnd x d m ∧ k m = some r := by
  unfold bound at h
  split at h
  · exact ⟨_, .inl ⟨rfl, rfl⟩, h⟩
  · exact ⟨_, .inr ⟨_, rfl⟩, h⟩
  · cases h

theorem sliceBound_ok {kd : IntKind} {m y : Nat} {code : BoundsCode} {w : World} (h : m ≤ y) : (Instr.sliceBound (.int kd (m : Int)) y code).run P w = .ok m w := by
  simp [Instr.sliceBound, asIntOf, h]

theorem bounds_ok {ρ : Env} {sl : Bool} {len cap l h m : Nat} {lo hi mx : Option AV} {w : World} (hm : Bnd mx cap m) (hh : Bnd hi len h) (hl : Bnd lo 0 l) (h1 : l ≤ h) (h2 : h ≤ m) (h3 : m ≤ cap)
    (hx : hi = none → mx = none) : (Instr.sliceBounds sl len cap (lo.map (conc ρ)) (hi.map (conc ρ)) (mx.map (conc ρ))).run P w = .ok (l, h, m) w := by
  unfold Instr.sliceBounds
  rcases hm with ⟨rfl, rfl⟩ | ⟨km, rfl⟩ <;> rcases hh with ⟨rfl, rfl⟩ | ⟨kh, rfl⟩ <;> rcases hl with ⟨rfl, rfl⟩ | ⟨kl, rfl⟩
  · simp
  · simp [conc, sliceBound_ok h1]
  · simp [conc, sliceBound_ok h2]
  · simp [conc, sliceBound_ok h1, sliceBound_ok h2]
  · simpa using hx rfl
  · simpa using hx rfl
  · simp [conc, sliceBound_ok h2, sliceBound_ok h3]
  · simp [conc, sliceBound_ok h1, sliceBound_ok h2, sliceBound_ok h3]

/-- Pure, where the memory is as it is told. -/
def SPure (P : Program) (H : Heap) (s : Env → Sem Value) (v : AV) (xs : List AV) : Prop :=
  ∀ ρ n w0 w, Rep ρ H n w0 w → (∀ w', (s ρ).run P w' = .ok (conc ρ v) w') ∧ (ltAll n xs → v.lt n)

theorem fitK_ok {H : Heap} {b es n : Nat} {k : Option R} (h : fitK H b es n k = some r) : k = some r ∧ ∀ ρ m w0 w, Rep ρ H m w0 w → n ≤ ρ.cap b ∧ 0 < es := by
  unfold fitK at h
  obtain ⟨B, hB, h⟩ := blkK_some h
  obtain ⟨hc, h⟩ := cond_some h
  simp only [Bool.and_eq_true] at hc
  have e1 := beq_eq' hc.1.2
  have e2 := ble_le hc.2
  rw [llen_eq] at e2
  refine ⟨h, fun ρ m w0 w hR => ?_⟩
  obtain ⟨cs, lo, hi, r1, r2, r3, r4, r5⟩ := (hR.ok b B hB).row
  obtain ⟨q1, q2⟩ := r4 hc.1.1
  rw [e1] at q1 q2
  refine ⟨?_, q1⟩
  have hfit : n * es ≤ ρ.cap b * es := by
    rcases Nat.eq_zero_or_pos B.cells.length with e | e
    · rw [e] at e2; exact Nat.le_trans e2 (Nat.zero_le _)
    · have h3 := (Array.getElem?_eq_some_iff.1 (r3 (B.cells.length - 1) _ (List.getElem?_eq_getElem (by omega)))).1
      omega
  exact Nat.le_of_mul_le_mul_right hfit q1

/-- What cutting comes to. -/
def Cuts (P : Program) (ρ : Env) (es : Nat) (x v : AV) (lo hi mx : Option AV) : Prop :=
  ∃ a len cap l hh m, conc ρ x = .slice a len cap ∧ (∀ sl w, (Instr.sliceBounds sl len cap (lo.map (conc ρ)) (hi.map (conc ρ)) (mx.map (conc ρ))).run P w = .ok (l, hh, m) w) ∧
    Value.slice (if m = l then a else a.map (·.add (l * es))) (hh - l) (m - l) = conc ρ v

theorem cutSlice_ok {H : Heap} {es : Nat} {x : AV} {lo hi mx : Option AV} {k : AV → Option R} (hx : hi = none → mx = none) (h : cutSlice H es x lo hi mx k = some r) :
    ∃ v, k v = some r ∧ (∀ ρ n w0 w, Rep ρ H n w0 w → Cuts P ρ es x v lo hi mx) ∧ ∀ n, x.lt n → v.lt n := by
  unfold cutSlice at h
  split at h
  · rename_i b o len cap
    obtain ⟨m, hm, h⟩ := bound_ok h
    obtain ⟨hh, hhb, h⟩ := bound_ok h
    obtain ⟨l, hl, h⟩ := bound_ok h
    obtain ⟨hc, h⟩ := cond_some h
    simp only [Bool.and_eq_true] at hc
    have h1 := ble_le hc.1.1
    have h2 := ble_le hc.1.2
    have h3 := ble_le hc.2
    cases hml : Nat.beq m l with
    | true =>
      rw [hml] at h
      have e := beq_eq' hml
      refine ⟨_, h, fun ρ n w0 w _ => ⟨some (ρ.addr b o), len, cap, l, hh, m, by simp only [conc], fun sl w2 => bounds_ok hm hhb hl h1 h2 h3 hx, ?_⟩, fun n hn => by simpa [AV.lt] using hn⟩
      rw [if_pos e, show hh - l = 0 by omega, show m - l = 0 by omega]; simp [conc]
    | false =>
      rw [hml] at h
      simp only [cond_false, natK_eq] at h
      have e := beq_ne' hml
      refine ⟨_, h, fun ρ n w0 w _ => ⟨some (ρ.addr b o), len, cap, l, hh, m, by simp only [conc], fun sl w2 => bounds_ok hm hhb hl h1 h2 h3 hx, ?_⟩, fun n hn => by simpa [AV.lt] using hn⟩
      rw [if_neg e]; simp [conc, addr_add']
  · rename_i b i e len
    obtain ⟨he, h⟩ := cond_some h
    have he := beq_eq' he
    subst he
    obtain ⟨h, hfit⟩ := fitK_ok h
    cases mx with
    | some mx =>
      obtain ⟨m, hm, h⟩ := bound_ok h
      obtain ⟨hh, hhb, h⟩ := bound_ok h
      obtain ⟨l, hl, h⟩ := bound_ok h
      obtain ⟨hc, h⟩ := cond_some h
      simp only [Bool.and_eq_true] at hc
      have h1 := ble_le hc.1.1
      have h2 := ble_le hc.1.2
      have h3 := ble_le hc.2
      have hm' : ∀ c, Bnd (some mx) c m := fun c => by
        rcases hm with ⟨e, _⟩ | hm
        · cases e
        · exact .inr hm
      cases hml : Nat.beq m l with
      | true =>
        rw [hml] at h
        simp only [cond_true, natK_eq] at h
        have e' := beq_eq' hml
        refine ⟨_, h, fun ρ n w0 w hR => ⟨some (ρ.addr b (i * e)), len, ρ.cap b - i, l, hh, m, by simp only [conc], fun sl w2 => bounds_ok (hm' _) hhb hl h1 h2 (by have := hfit ρ n w0 w hR; omega) hx, ?_⟩, fun n hn => by simpa [AV.lt] using hn⟩
        rw [if_pos e', show hh - l = 0 by omega, show m - l = 0 by omega]; simp [conc]
      | false =>
        rw [hml] at h
        simp only [cond_false, natK_eq] at h
        have e' := beq_ne' hml
        refine ⟨_, h, fun ρ n w0 w hR => ⟨some (ρ.addr b (i * e)), len, ρ.cap b - i, l, hh, m, by simp only [conc], fun sl w2 => bounds_ok (hm' _) hhb hl h1 h2 (by have := hfit ρ n w0 w hR; omega) hx, ?_⟩, fun n hn => by simpa [AV.lt] using hn⟩
        rw [if_neg e']; simp [conc, addr_add', Nat.add_mul]
    | none =>
      obtain ⟨hh, hhb, h⟩ := bound_ok h
      obtain ⟨l, hl, h⟩ := bound_ok h
      obtain ⟨hc, h⟩ := cond_some h
      simp only [Bool.and_eq_true] at hc
      have h1 := ble_le hc.1
      have h2 := ble_le hc.2
      cases hcs : (Nat.blt l len || Nat.beq l 0) with
      | true =>
        rw [hcs] at h
        simp only [cond_true, natK_eq] at h
        refine ⟨_, h, fun ρ n w0 w hR => ?_, fun n hn => by simpa [AV.lt] using hn⟩
        have hf := (hfit ρ n w0 w hR).1
        refine ⟨some (ρ.addr b (i * e)), len, ρ.cap b - i, l, hh, ρ.cap b - i, by simp only [conc], fun sl w2 => bounds_ok (.inl ⟨rfl, rfl⟩) hhb hl h1 (by omega) (by omega) (fun _ => rfl), ?_⟩
        simp only [Bool.or_eq_true] at hcs
        have hor : l < len ∨ l = 0 := hcs.imp blt_lt beq_eq'
        by_cases hcl : ρ.cap b - i = l
        · have hl0 : l = 0 := by omega
          subst hl0
          rw [if_pos hcl]; simp [conc]
        · rw [if_neg hcl]; simp [conc, addr_add', Nat.add_mul, Nat.sub_sub]
      | false =>
        rw [hcs] at h
        simp only [Bool.or_eq_false_iff] at hcs
        have hnl : ¬ l < len := fun e => by have : Nat.blt l len = true := Nat.ble_eq_true_of_le e; rw [this] at hcs; cases hcs.1
        refine ⟨_, h, fun ρ n w0 w hR => ?_, fun n hn => by simpa [AV.lt] using hn⟩
        have hf := (hfit ρ n w0 w hR).1
        refine ⟨some (ρ.addr b (i * e)), len, ρ.cap b - i, l, hh, ρ.cap b - i, by simp only [conc], fun sl w2 => bounds_ok (.inl ⟨rfl, rfl⟩) hhb hl h1 (by omega) (by omega) (fun _ => rfl), ?_⟩
        simp only [conc]
        by_cases hcl : ρ.cap b - i = l
        · rw [if_pos hcl, if_pos hcl, show hh - l = 0 by omega, show ρ.cap b - i - l = 0 by omega]
        · rw [if_neg hcl, if_neg hcl, show hh - l = 0 by omega]; simp [addr_add', Nat.add_mul]
  · rename_i b i e l0
    split at h
    · obtain ⟨hh, hhb, h⟩ := bound_ok h
      obtain ⟨l, hl, h⟩ := bound_ok h
      obtain ⟨hc, h⟩ := cond_some h
      simp only [Bool.and_eq_true] at hc
      have e1 := beq_eq' hc.1
      have e2 := beq_eq' hc.2
      subst e1; subst e2
      refine ⟨_, h, fun ρ n w0 w hR => ?_, fun n hn => hn⟩
      by_cases hcl : ρ.cap b - i = l0
      · refine ⟨some (ρ.addr b (i * e)), 0, 0, 0, 0, 0, by simp only [conc]; rw [if_pos hcl], fun sl w2 => bounds_ok (.inl ⟨rfl, rfl⟩) hhb hl (Nat.le_refl _) (Nat.le_refl _) (Nat.le_refl _) (fun _ => rfl), ?_⟩
        simp only [conc]; rw [if_pos hcl]; simp
      · refine ⟨some (ρ.addr b ((i + l0) * e)), 0, ρ.cap b - i - l0, 0, 0, ρ.cap b - i - l0, by simp only [conc]; rw [if_neg hcl], fun sl w2 => bounds_ok (.inl ⟨rfl, rfl⟩) hhb hl (Nat.le_refl _) (Nat.zero_le _) (Nat.le_refl _) (fun _ => rfl), ?_⟩
        simp only [conc]; rw [if_neg hcl]; simp [addr_add']
    · cases h
  · obtain ⟨m, hm, h⟩ := bound_ok h
    obtain ⟨hh, hhb, h⟩ := bound_ok h
    obtain ⟨l, hl, h⟩ := bound_ok h
    obtain ⟨hc, h⟩ := cond_some h
    simp only [Bool.and_eq_true] at hc
    have e1 := beq_eq' hc.1.1
    have e2 := beq_eq' hc.1.2
    have e3 := beq_eq' hc.2
    subst e1; subst e2; subst e3
    refine ⟨_, h, fun ρ n w0 w _ => ⟨none, 0, 0, 0, 0, 0, by simp only [conc], fun sl w2 => bounds_ok hm hhb hl (Nat.le_refl _) (Nat.le_refl _) (Nat.le_refl _) hx, by simp [conc]⟩, fun n hn => hn⟩
  · cases h
end
end Go.Proofs.YtnllmelmmcapcaaGreatDoor.Ev
