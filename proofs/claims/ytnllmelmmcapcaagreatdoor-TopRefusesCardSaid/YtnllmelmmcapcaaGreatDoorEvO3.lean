/- Values built, slices built and made. -/
import Derived.Test.YtnllmelmmcapcaaGreatDoorEvO2
import Derived.Great.FillDense
namespace Go.Proofs.YtnllmelmmcapcaaGreatDoor.Ev
open Go Go.RowKit
set_option linter.unusedVariables false

section
variable {R : Type} {P : Program} {r : R}

theorem fold_splice (cs : Array Value) (off : Nat) (l : Array Value) (h : off + l.size ≤ cs.size) :
    l.zipIdx.foldl (fun cs (x : Value × Nat) => cs.setIfInBounds (off + x.2) x.1) cs = (splice cs.toList off l.toList).toArray := by
  rw [← Array.foldl_toList, Array.toList_zipIdx]
  obtain ⟨h1, h2⟩ := Great.foldl_set off l.toList 0 cs
  apply Array.ext_getElem?
  intro k
  have hs : (splice cs.toList off l.toList).toArray[k]? = if off ≤ k ∧ k < off + l.toList.length then l.toList[k - off]? else cs.toList[k]? := by
    rw [List.getElem?_toArray]; exact splice_get _ _ _ _ (by simpa using h)
  rw [h2 k, hs]
  simp only [Nat.add_zero, Array.length_toList]
  by_cases e : off ≤ k ∧ k < off + l.size
  · rw [if_pos ⟨e.1, e.2, by omega⟩, if_pos e]
  · rw [if_neg (by omega), if_neg e, Array.getElem?_toList]

theorem fillK_ok {α : Type} {placeK : Nat → (Nat → Nat → Option R) → Option R} {place : Nat → Option (Nat × Nat)}
    (hp : ∀ i k r, placeK i k = some r → ∃ off n, place i = some (off, n) ∧ k off n = some r) :
    ∀ (ps : List (Nat × AV)) {z : List AV} {k : List AV → Option R}, fillK placeK ps z k = some r →
      ∃ z', k z' = some r ∧ (∀ ρ, Instr.fill place (concs ρ z).toArray (ps.map fun x => (x.1, conc ρ x.2)) = some (concs ρ z').toArray) ∧ ∀ n, ltAll n z → (∀ x ∈ ps, x.2.lt n) → ltAll n z' := by
  intro ps
  induction ps with
  | nil => exact fun h => ⟨_, h, fun ρ => rfl, fun n hn _ => hn⟩
  | cons p ps ih =>
    intro z k h
    obtain ⟨i, v⟩ := p
    have h : (placeK i fun off n => cellsK v fun l => cond (Nat.beq (llen l) n) (lput l z off fun z => fillK placeK ps z k) none) = some r := h
    obtain ⟨off, n, hpl, h⟩ := hp _ _ _ h
    obtain ⟨l, h, hc, hlt⟩ := cellsK_ok h
    obtain ⟨hn, h⟩ := cond_some h
    rw [lput_eq] at h
    obtain ⟨hl, h⟩ := if_some h
    obtain ⟨z', h, h1, h2⟩ := ih h
    have hn' : l.length = n := by rw [llen_eq] at hn; exact Nat.eq_of_beq_eq_true hn
    refine ⟨z', h, fun ρ => ?_, fun m hz hps => h2 m ?_ (fun x hx => hps x (List.mem_cons_of_mem _ hx))⟩
    · simp only [List.map_cons, Instr.fill, hpl, hc]
      rw [if_neg (by simp [concs_length, hn']; omega)]
      have := fold_splice (concs ρ z).toArray off (concs ρ l).toArray (by simpa [concs_length] using hl)
      rw [this]
      have e : splice (concs ρ z) off (concs ρ l) = concs ρ (splice z off l) := by
        apply List.ext_getElem?
        intro j
        have hs := splice_get z l off j hl
        rw [splice_get _ _ _ _ (by simpa [concs_length] using hl), concs_get ρ (splice z off l), hs, concs_length]
        split <;> rw [concs_get]
      simp only [e]
      exact h1 ρ
    · rw [ltAll_iff]
      intro u hu
      simp only [splice, List.mem_append] at hu
      rcases hu with (hu | hu) | hu
      · exact (ltAll_iff _ _).1 hz u (List.mem_of_mem_take hu)
      · exact (ltAll_iff _ _).1 (hlt m (hps _ (List.mem_cons_self ..))) u hu
      · exact (ltAll_iff _ _).1 hz u (List.mem_of_mem_drop hu)

theorem run_mapM {α β : Type} {f : α → Sem β} {g : α → β} {w : World} : ∀ {l : List α}, (∀ x ∈ l, (f x).run P w = .ok (g x) w) → (l.mapM f).run P w = .ok (l.map g) w
  | [], _ => rfl
  | x :: l, h => by
    rw [List.mapM_cons]
    simp only [Sem.run_bind, h x (List.mem_cons_self ..), Result.andThen_ok, run_mapM (fun y hy => h y (List.mem_cons_of_mem _ hy))]
    rfl

theorem run_mapMA {α β : Type} {f : α → Sem β} {g : α → β} {w : World} {l : Array α} (h : ∀ x ∈ l.toList, (f x).run P w = .ok (g x) w) : (l.mapM f).run P w = .ok (l.map g) w := by
  obtain ⟨l⟩ := l
  rw [List.mapM_toArray]
  simp only [Functor.map]
  have := run_mapM (P := P) (w := w) (l := l) (f := f) (g := g) h
  simp [Sem.run_bind', this]

theorem evBuild_ok {t : TypeId} {ps : List (Nat × AV)} {k : AV → Option R} (h : evBuild P t ps k = some r) :
    ∃ v, k v = some r ∧ (∀ ρ w, (Instr.build t (ps.map fun x => (x.1, conc ρ x.2)).toArray).run P w = .ok (conc ρ v) w) ∧ ∀ n, (∀ x ∈ ps, x.2.lt n) → v.lt n := by
  unfold evBuild at h
  obtain ⟨i, zv, av, hi, hz, h, hc⟩ := zeroOf_ok h
  split at h
  · rename_i z
    have hzc : ∀ ρ, zv.cells = (concs ρ z).toArray := fun ρ => by rw [← hc.1 ρ]; simp [conc, Value.cells]
    have hzl : ∀ n, ltAll n z := fun n => by simpa [AV.lt] using hc.2 n
    obtain ⟨d, hd, h⟩ := und_ok h
    split at h
    · rename_i fs
      obtain ⟨pl, h, hl, hall⟩ := lmap_some (Q := fun (f : Field) (p : Nat × Nat) => p.1 = f.offset ∧ ∃ i, P.info? f.type = some i ∧ p.2 = i.size) (fun x _ k r hx => by
        rw [natK_eq] at hx
        obtain ⟨i, hi, hx⟩ := szOf_ok hx
        exact ⟨_, hx, rfl, i, hi, rfl⟩) h
      obtain ⟨z', h, h1, h2⟩ := fillK_ok (α := Unit) (place := fun i => pl[i]?) (fun i k r hx => by
        rw [lget_eq] at hx
        cases hp : pl[i]? with
        | none => rw [hp] at hx; cases hx
        | some p => rw [hp] at hx; exact ⟨p.1, p.2, by simp, hx⟩) ps h
      refine ⟨_, h, fun ρ w => ?_, fun n hn => by simpa [AV.lt] using h2 n (hzl n) hn⟩
      have hplaces : ((fs.mapM fun (f : Field) => do pure (f.offset, ← sizeOf f.type)) : Sem (Array (Nat × Nat))).run P w = .ok pl.toArray w := by
        rw [run_mapMA (g := fun (f : Field) => (f.offset, (P.cellsOf f.type))) (fun f hf => ?_)]
        · congr 1
          apply Array.ext_getElem?
          intro j
          have e1 : (fs.map fun (f : Field) => (f.offset, P.cellsOf f.type))[j]? = fs.toList[j]?.map fun (f : Field) => (f.offset, P.cellsOf f.type) := by rw [Array.getElem?_map, Array.getElem?_toList]
          have e2 : pl.toArray[j]? = pl[j]? := by simp
          rw [e1, e2]
          rcases Nat.lt_or_ge j fs.toList.length with hj | hj
          · have hj' : j < pl.length := by rw [hl]; exact hj
            obtain ⟨q1, i', q2, q3⟩ := hall j _ _ (List.getElem?_eq_getElem hj) (List.getElem?_eq_getElem hj')
            rw [List.getElem?_eq_getElem hj, List.getElem?_eq_getElem hj']
            simp only [Option.map_some, Program.cellsOf, q2, Option.getD_some]
            rw [← q1, ← q3]
          · rw [List.getElem?_eq_none hj, List.getElem?_eq_none (by rw [hl]; exact hj)]; rfl
        · obtain ⟨j, hj⟩ := List.getElem?_of_mem hf
          have hj' : j < pl.length := by rw [hl]; exact (List.getElem?_eq_some_iff.1 hj).1
          obtain ⟨q1, i', q2, q3⟩ := hall j f pl[j] hj (by simp [hj'])
          simp [run_size q2, Program.cellsOf, q2]
      simp only [Instr.build, Sem.run_bind, run_zero hi hz, Result.andThen_ok, run_underlying hd, hzc ρ]
      rw [hplaces]
      have h1' : Instr.fill (fun x => pl.toArray[x]?) (concs ρ z).toArray (ps.map fun x => (x.1, conc ρ x.2)) = some (concs ρ z').toArray := by simpa using h1 ρ
      simp only [Result.andThen_ok]
      rw [h1']
      simp [conc]
    · rename_i len e
      obtain ⟨i', hi', h⟩ := szOf_ok h
      obtain ⟨z', h, h1, h2⟩ := fillK_ok (α := Unit) (place := fun j => some (j * i'.size, i'.size)) (fun i k r hx => by
        rw [natK_eq] at hx
        exact ⟨_, _, rfl, hx⟩) ps h
      refine ⟨_, h, fun ρ w => ?_, fun n hn => by simpa [AV.lt] using h2 n (hzl n) hn⟩
      simp only [Instr.build, Sem.run_bind, run_zero hi hz, Result.andThen_ok, run_underlying hd, hzc ρ, run_size hi', h1 ρ]
      simp [conc]
    · cases h
  · cases h
end
end Go.Proofs.YtnllmelmmcapcaaGreatDoor.Ev
