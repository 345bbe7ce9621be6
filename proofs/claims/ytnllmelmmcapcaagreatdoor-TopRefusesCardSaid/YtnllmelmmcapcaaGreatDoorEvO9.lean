/- Builtins. -/
import Derived.Test.YtnllmelmmcapcaaGreatDoorEvO8
namespace Go.Proofs.YtnllmelmmcapcaaGreatDoor.Ev
open Go Go.RowKit
set_option linter.unusedVariables false

section
variable {R : Type} {P : Program} {r : R}

/-- What an operation comes to that may write and make. -/
def Does (P : Program) (s : Env → Sem Value) (xs : List AV) (H : Heap) (m : Nat) (v : AV) (H' : Heap) (m' : Nat) : Prop :=
  ∀ ρ w0 w, Rep ρ H m w0 w → ltAll m xs → ∃ ρ' w', Ext m ρ ρ' ∧ m ≤ m' ∧ (s ρ).run P w = .ok (conc ρ' v) w' ∧ v.lt m' ∧ Rep ρ' H' m' w0 w'

theorem concs_one {ρ : Env} {l : List AV} (h : lall scal l = true) : ∀ u ∈ concs ρ l, u.oneCell' = true := fun v hv => by
  rw [concs_eq] at hv
  obtain ⟨u, hu, rfl⟩ := List.mem_map.1 hv
  exact scal_one ((lall_iff _ _).1 h u hu)

theorem evAppend_ok {t tx ty : TypeId} {s x : AV} {H : Heap} {m : Nat} {k : AV → Heap → Nat → Option R} (h : evAppend P t tx s x H m k = some r) :
    ∃ v H' m', k v H' m' = some r ∧ Does P (fun ρ => Builtin.append_ #[t, tx] ty #[conc ρ s, conc ρ x]) [s, x] H m v H' m' := by
  unfold evAppend at h
  obtain ⟨d, hd, h⟩ := und_ok h
  cases d with
  | slice e =>
    obtain ⟨dx, hdx, h⟩ := und_ok h
    have h2 : (szOf P e fun es => cond (Nat.beq es 0) none (lenK x fun n => showK es x H n fun new => cond (lall scal new) (evApp P e es s n new H m k) none)) = some r ∧ ((∃ e', P.underlying tx = some (.slice e')) ∨ P.underlying tx = some .string) := by
      cases dx with
      | slice e' => exact ⟨h, .inl ⟨e', hdx⟩⟩
      | string => exact ⟨h, .inr hdx⟩
      | _ => cases h
    obtain ⟨h, hkind⟩ := h2
    obtain ⟨i, hi, h⟩ := szOf_ok h
    cases hz : Nat.beq i.size 0 with
    | true => rw [hz] at h; cases h
    | false =>
      rw [hz] at h
      simp only [cond_false] at h
      have hpos : 0 < i.size := Nat.pos_of_ne_zero (beq_ne' hz)
      obtain ⟨n, h, hlen⟩ := lenK_ok (P := P) h
      obtain ⟨new, h, hl, hshow⟩ := showK_ok (P := P) h
      obtain ⟨hs, h⟩ := cond_some h
      obtain ⟨v, H', m', h, happ⟩ := evApp_ok (t := t) hd hi hpos hl hs h
      refine ⟨v, H', m', h, fun ρ w0 w hR hlt => ?_⟩
      simp only [ltAll] at hlt
      obtain ⟨c1, c2⟩ := hshow ρ m w0 w hR
      obtain ⟨d1, _⟩ := hshow ρ m w0 w.drew hR.drew
      exact happ ρ w0 w (conc ρ x) tx ty hR hlt.1 c2 ⟨hkind, fun w' => hlen ρ w', c1, d1, by rw [concs_length, hl], concs_one hs⟩
  | _ => cases h

theorem evCopy_ok {t tx ty : TypeId} {d s : AV} {H : Heap} {m : Nat} {k : AV → Heap → Option R} (h : evCopy P t d s H k = some r) :
    ∃ v H', k v H' = some r ∧ Does P (fun ρ => Builtin.copy_ #[t, tx] ty #[conc ρ d, conc ρ s]) [d, s] H m v H' m := by
  unfold evCopy at h
  obtain ⟨dd, hd, h⟩ := und_ok h
  cases dd with
  | slice e =>
    obtain ⟨i, hi, h⟩ := szOf_ok h
    obtain ⟨ls, h, hls⟩ := lenK_ok (P := P) h
    obtain ⟨ld, h, hld⟩ := lenK_ok (P := P) h
    rw [natK_eq] at h
    obtain ⟨cells, h, hl, hshow⟩ := showK_ok (P := P) h
    have base : ∀ ρ w0 w (b : Option Addr) (dl dc : Nat) w', Rep ρ H m w0 w → conc ρ d = .slice b dl dc → (∀ a, b = some a → (storeCells a (concs ρ cells)).run P w = .ok () w') → (b = none → w' = w) →
        (Builtin.copy_ #[t, tx] ty #[conc ρ d, conc ρ s]).run P w = .ok (.int .i64 (Int.ofNat (Nat.min ls ld))) w' := fun ρ w0 w b dl dc w' hR hcd hst hno => by
      obtain ⟨c1, _⟩ := hshow ρ m w0 w hR
      have hdl : dl = ld := by
        have := hld ρ w
        rw [hcd] at this
        simpa [Builtin.lenOf] using this
      subst hdl
      cases b with
      | none =>
        have e := hno rfl
        subst e
        simp only [Builtin.copy_, Sem.run_bind, run_underlying hd, hcd, hls ρ, run_size hi, c1, goInt, Result.andThen_ok, Sem.run_pure, List.getElem?_toArray, List.getElem?_cons_zero, List.getElem?_cons_succ]
        rfl
      | some a =>
        have := hst a rfl
        simp only [Builtin.copy_, Sem.run_bind, run_underlying hd, hcd, hls ρ, run_size hi, c1, goInt, Result.andThen_ok, Sem.run_pure, List.getElem?_toArray, List.getElem?_cons_zero, List.getElem?_cons_succ, this]
        rfl
    cases d with
    | sl b o len cap =>
      obtain ⟨B, H', hs, hB, hfit, hH, h⟩ := writeK_some h
      refine ⟨_, H', h, fun ρ w0 w hR hlt => ?_⟩
      obtain ⟨w', hst, hR'⟩ := hR.write (P := P) hB hfit (hshow ρ m w0 w hR).2 hs hH
      refine ⟨ρ, w', Ext.refl _ _, Nat.le_refl _, ?_, by simp [AV.lt], hR'⟩
      exact base ρ w0 w (some (ρ.addr b o)) len cap w' hR (by simp only [conc]) (fun a ha => by cases ha; exact hst) (fun ha => by cases ha)
    | slo b j e' len =>
      obtain ⟨he, h'⟩ := cond_some h
      have he := beq_eq' he
      subst he
      obtain ⟨B, H', hs, hB, hfit, hH, h2⟩ := writeK_some h'
      refine ⟨_, H', h2, fun ρ w0 w hR hlt => ?_⟩
      obtain ⟨w', hst, hR'⟩ := hR.write (P := P) hB hfit (hshow ρ m w0 w hR).2 hs hH
      refine ⟨ρ, w', Ext.refl _ _, Nat.le_refl _, ?_, by simp [AV.lt], hR'⟩
      exact base ρ w0 w (some (ρ.addr b (j * i.size))) len (ρ.cap b - j) w' hR (by simp only [conc]) (fun a ha => by cases ha; exact hst) (fun ha => by cases ha)
    | slz b j e' l =>
      have h : k (.int .i64 (.ofNat (Nat.min ls ld))) H = some r := h
      refine ⟨_, H, h, fun ρ w0 w hR hlt => ⟨ρ, w, Ext.refl _ _, Nat.le_refl _, ?_, by simp [AV.lt], hR⟩⟩
      have hld0 : ld = 0 := by
        have := hld ρ w
        simp only [conc] at this
        split at this <;> simpa [Builtin.lenOf, eq_comm] using this
      subst hld0
      have hnil : cells = [] := List.eq_nil_of_length_eq_zero (by rw [hl]; simp)
      subst hnil
      by_cases hc : ρ.cap b - j = l
      · exact base ρ w0 w (some (ρ.addr b (j * e'))) 0 0 w hR (by simp only [conc]; rw [if_pos hc]) (fun a ha => rfl) (fun _ => rfl)
      · exact base ρ w0 w (some (ρ.addr b ((j + l) * e'))) 0 (ρ.cap b - j - l) w hR (by simp only [conc]; rw [if_neg hc]) (fun a ha => rfl) (fun _ => rfl)
    | nilsl =>
      have h : k (.int .i64 (.ofNat (Nat.min ls ld))) H = some r := h
      refine ⟨_, H, h, fun ρ w0 w hR hlt => ⟨ρ, w, Ext.refl _ _, Nat.le_refl _, ?_, by simp [AV.lt], hR⟩⟩
      exact base ρ w0 w none 0 0 w hR (by simp only [conc]) (fun a ha => by cases ha) (fun _ => rfl)
    | _ => cases h
  | _ => cases h

theorem evLen_ok {t ty : TypeId} {x : AV} {k : AV → Option R} (h : evLen P t x k = some r) :
    ∃ v, k v = some r ∧ Pure P (fun ρ => Builtin.len_ #[t] ty #[conc ρ x]) v [x] := by
  unfold evLen at h
  obtain ⟨d, hd, h⟩ := und_ok h
  cases d with
  | array n e => exact ⟨_, h, fun ρ w => by simp [Builtin.len_, run_underlying hd, conc, goInt], fun n _ => by simp [AV.lt]⟩
  | pointer a =>
    obtain ⟨d2, hd2, h⟩ := und_ok h
    cases d2 with
    | array n e => exact ⟨_, h, fun ρ w => by simp [Builtin.len_, run_underlying hd, run_underlying hd2, conc, goInt], fun n _ => by simp [AV.lt]⟩
    | _ => cases h
  | string =>
    cases x with
    | str l =>
      have h : natK (llen l) (fun n => k (.int .i64 (.ofNat n))) = some r := h
      rw [natK_eq, llen_eq] at h
      exact ⟨_, h, fun ρ w => by simp only [Builtin.len_, Sem.run_bind, List.getElem?_toArray, List.getElem?_cons_zero, run_underlying hd, Result.andThen_ok, conc, goInt, str_size, Sem.run_pure]; rfl, fun n _ => by simp [AV.lt]⟩
    | _ => cases h
  | slice e =>
    cases x with
    | sl b o len cap => exact ⟨_, h, fun ρ w => by simp [Builtin.len_, run_underlying hd, conc, goInt], fun n _ => by simp [AV.lt]⟩
    | slo b i es len => exact ⟨_, h, fun ρ w => by simp [Builtin.len_, run_underlying hd, conc, goInt], fun n _ => by simp [AV.lt]⟩
    | slz b i es l => exact ⟨_, h, fun ρ w => by simp only [conc]; split <;> simp [Builtin.len_, run_underlying hd, goInt], fun n _ => by simp [AV.lt]⟩
    | nilsl => exact ⟨_, h, fun ρ w => by simp [Builtin.len_, run_underlying hd, conc, goInt], fun n _ => by simp [AV.lt]⟩
    | _ => cases h
  | _ => cases h

theorem evCap_ok {t ty : TypeId} {x : AV} {k : AV → Option R} (h : evCap P t x k = some r) :
    ∃ v, k v = some r ∧ Pure P (fun ρ => Builtin.cap_ #[t] ty #[conc ρ x]) v [x] := by
  unfold evCap at h
  obtain ⟨d, hd, h⟩ := und_ok h
  cases d with
  | slice e =>
    cases x with
    | sl b o len cap => exact ⟨_, h, fun ρ w => by simp [Builtin.cap_, run_underlying hd, conc, goInt], fun n _ => by simp [AV.lt]⟩
    | nilsl => exact ⟨_, h, fun ρ w => by simp [Builtin.cap_, run_underlying hd, conc, goInt], fun n _ => by simp [AV.lt]⟩
    | _ => cases h
  | _ => cases h

theorem evMin_ok {mx : Bool} {x y : AV} {k : AV → Option R} (h : evMin mx x y k = some r) :
    ∃ v, k v = some r ∧ (∀ ρ w, ((if mx then Builtin.max2 else Builtin.min2) (conc ρ x) (conc ρ y)).run P w = .ok (conc ρ v) w) ∧ ∀ n, v.lt n := by
  unfold evMin at h
  split at h
  · rename_i kd a kd' b
    rw [boolK_eq] at h
    cases mx with
    | true =>
      by_cases hc : b > a
      · simp only [cond_true, hc, decide_true] at h
        exact ⟨_, h, fun ρ w => by simp only [if_true, conc, Builtin.max2, if_pos hc]; rfl, fun n => by simp [AV.lt]⟩
      · simp only [cond_true, hc, decide_false, cond_false] at h
        exact ⟨_, h, fun ρ w => by simp only [if_true, conc, Builtin.max2, if_neg hc]; rfl, fun n => by simp [AV.lt]⟩
    | false =>
      by_cases hc : b < a
      · simp only [cond_true, cond_false, hc, decide_true] at h
        exact ⟨_, h, fun ρ w => by simp only [Bool.false_eq_true, if_false, conc, Builtin.min2, if_pos hc]; rfl, fun n => by simp [AV.lt]⟩
      · simp only [hc, decide_false, cond_false] at h
        exact ⟨_, h, fun ρ w => by simp only [Bool.false_eq_true, if_false, conc, Builtin.min2, if_neg hc]; rfl, fun n => by simp [AV.lt]⟩
  · cases h

theorem evMins_ok {mx : Bool} : ∀ (l : List AV) {x : AV} {k : AV → Option R}, evMins mx l x k = some r →
    ∃ v, k v = some r ∧ (∀ ρ w, ((concs ρ l).foldlM (if mx then Builtin.max2 else Builtin.min2) (conc ρ x)).run P w = .ok (conc ρ v) w) ∧ ∀ n, x.lt n → v.lt n
  | [], x, k, h => ⟨x, h, fun ρ w => by simp [concs], fun n hn => hn⟩
  | y :: l, x, k, h => by
    have h : evMin mx x y (fun z => evMins mx l z k) = some r := h
    obtain ⟨z, h, h1, h2⟩ := evMin_ok (P := P) h
    obtain ⟨v, h, h3, h4⟩ := evMins_ok l h
    refine ⟨v, h, fun ρ w => ?_, fun n _ => h4 n (h2 n)⟩
    simp only [concs, List.foldlM_cons, Sem.run_bind, h1 ρ w, Result.andThen_ok, h3 ρ w]
end
end Go.Proofs.YtnllmelmmcapcaaGreatDoor.Ev
