/- Parts, loads, stores, boxes. -/
import Derived.Test.YtnllmelmmcapcaaGreatDoorEvO1
namespace Go.Proofs.YtnllmelmmcapcaaGreatDoor.Ev
open Go Go.RowKit
set_option linter.unusedVariables false

section
variable {R : Type} {P : Program} {r : R}

theorem ltAll_get {n : Nat} {l : List AV} (h : ltAll n l) {i : Nat} {v : AV} (hv : l[i]? = some v) : v.lt n := (ltAll_iff _ _).1 h v (List.mem_of_getElem? hv)

theorem concs_length (ρ : Env) (l : List AV) : (concs ρ l).length = l.length := by rw [concs_eq, List.length_map]
theorem concs_get (ρ : Env) (l : List AV) (i : Nat) : (concs ρ l)[i]? = l[i]?.map (conc ρ) := by rw [concs_eq, List.getElem?_map]

theorem partK_ok {t : TypeId} {l : List AV} {off : Nat} {k : AV → Option R} (h : partK P t l off k = some r) :
    ∃ v, k v = some r ∧ (∀ ρ w, (part t (concs ρ l).toArray off).run P w = .ok (conc ρ v) w) ∧ ∀ n, ltAll n l → v.lt n := by
  unfold partK at h
  obtain ⟨b, hb, h⟩ := aggK_ok h
  cases b
  · simp only [cond_false, lget_eq] at h
    cases hv : l[off]? with
    | none => rw [hv] at h; cases h
    | some v =>
      rw [hv] at h
      refine ⟨v, h, fun ρ w => ?_, fun n hn => ltAll_get hn hv⟩
      simp [part, hb, concs_get, hv]
  · simp only [cond_true] at h
    obtain ⟨i, hi, h⟩ := szOf_ok h
    rw [ldrop_eq] at h
    obtain ⟨h1, h⟩ := if_some h
    rw [ltake_eq] at h
    obtain ⟨h2, h⟩ := if_some h
    refine ⟨_, h, fun ρ w => ?_, fun n hn => ?_⟩
    · simp only [part, Sem.run_bind, hb, Result.andThen_ok, if_true, run_size hi]
      simp only [conc, Sem.run_pure]
      congr 2
      apply Array.ext_getElem?
      intro j
      simp only [Array.getElem?_extract, List.getElem?_toArray, concs_get, List.getElem?_take, List.getElem?_drop, List.size_toArray, concs_length]
      rw [List.length_drop] at h2
      by_cases hj : j < i.size
      · rw [if_pos hj, if_pos (by omega)]
      · rw [if_neg hj, if_neg (by omega)]; rfl
    · simp only [AV.lt]
      rw [ltAll_iff] at hn ⊢
      exact fun v hv => hn v (List.mem_of_mem_drop (List.mem_of_mem_take hv))

theorem GlobOk.cell' {G : Tr (List AV)} {w0 w : World} (hG : GlobOk G w0) (hu : Upd [] w0 w) {g : Nat} {l : List AV} (hg : G.get g = some l) {i : Nat} {v : AV} (hv : l[i]? = some v) (ρ : Env) :
    w.cell? ⟨g, i, none⟩ = some (conc ρ v) ∧ ∀ n, v.lt n := by
  obtain ⟨h1, h2, h3⟩ := hG.cell g l hg i v hv
  exact ⟨by rw [hu.cell (a := ⟨g, i, none⟩) h2 (by simp)]; exact h3 ρ, fun n => AV.lt_mono (Nat.zero_le _) v h1⟩

theorem evLoad_ok {G : Tr (List AV)} {t : TypeId} {a : AV} {H : Heap} {k : AV → Option R} (h : evLoad P G t a H k = some r) :
    ∃ v, k v = some r ∧ ∀ ρ n w0 w, GlobOk G w0 → Rep ρ H n w0 w → (Instr.loadAt t (conc ρ a)).run P w = .ok (conc ρ v) w ∧ v.lt n := by
  unfold evLoad at h
  split at h
  · rename_i b o
    obtain ⟨g, hg, h⟩ := aggK_ok h
    cases g
    · simp only [cond_false] at h
      obtain ⟨B, v, hB, hv, h⟩ := read1_some h
      refine ⟨v, h, fun ρ n w0 w _ hR => ?_⟩
      obtain ⟨h1, h2⟩ := hR.cell hB hv
      exact ⟨by simp [Instr.loadAt, Instr.sureAddr, conc, loadVar, hg, h1], h2⟩
    · simp only [cond_true] at h
      obtain ⟨i, hi, h⟩ := szOf_ok h
      obtain ⟨B, l, hB, hl, hall, h⟩ := readK_some h
      refine ⟨_, h, fun ρ n w0 w _ hR => ?_⟩
      obtain ⟨h1, h2⟩ := hR.loads (P := P) hB hall
      rw [hl] at h1
      exact ⟨by simp [Instr.loadAt, Instr.sureAddr, conc, loadVar, hg, run_size hi, h1], by simpa [AV.lt] using h2⟩
  · rename_i g o
    rw [tget_eq] at h
    cases hl : G.get g with
    | none => rw [hl] at h; cases h
    | some l =>
      rw [hl] at h
      simp only at h
      unfold partK at h
      obtain ⟨b, hb, h⟩ := aggK_ok h
      cases b
      · simp only [cond_false, lget_eq] at h
        cases hv : l[o]? with
        | none => rw [hv] at h; cases h
        | some v =>
          rw [hv] at h
          refine ⟨v, h, fun ρ n w0 w hG hR => ?_⟩
          obtain ⟨h1, h2⟩ := hG.cell' hR.upd hl hv ρ
          exact ⟨by simp [Instr.loadAt, Instr.sureAddr, conc, loadVar, hb, h1], h2 n⟩
      · simp only [cond_true] at h
        obtain ⟨i, hi, h⟩ := szOf_ok h
        rw [ldrop_eq] at h
        obtain ⟨h1, h⟩ := if_some h
        rw [ltake_eq] at h
        obtain ⟨h2, h⟩ := if_some h
        refine ⟨_, h, fun ρ n w0 w hG hR => ?_⟩
        have hget : ∀ (j : Nat) v, ((l.drop o).take i.size)[j]? = some v → l[o + j]? = some v := fun j v hv => by
          rw [List.getElem?_take] at hv
          split at hv
          · rwa [List.getElem?_drop] at hv
          · cases hv
        have hrun := run_loadCells_list (P := P) w ⟨g, o, none⟩ (concs ρ ((l.drop o).take i.size)) (fun j u hj => by
          rw [concs_get] at hj
          cases hv : ((l.drop o).take i.size)[j]? with
          | none => rw [hv] at hj; cases hj
          | some v =>
            rw [hv] at hj; cases hj
            have := (hG.cell' hR.upd hl (hget j v hv) ρ).1
            have e : (⟨g, o, none⟩ : Addr).add j = ⟨g, o + j, none⟩ := by unfold Addr.add; split <;> simp_all
            rw [e]; exact this)
        rw [concs_length, List.length_take, Nat.min_eq_left h2] at hrun
        refine ⟨by simp [Instr.loadAt, Instr.sureAddr, conc, loadVar, hb, run_size hi, hrun], ?_⟩
        simp only [AV.lt]
        rw [ltAll_iff]
        intro v hv
        obtain ⟨j, hj⟩ := List.getElem?_of_mem hv
        exact (hG.cell' hR.upd hl (hget j v hj) ρ).2 n
  · cases h

theorem writeK_some {H : Heap} {b o : Nat} {l : List AV} {k : Heap → Option R} (h : writeK H b o l k = some r) :
    ∃ (B : Blk) (H' : Heap), lall scal l = true ∧ H.get b = some B ∧ o + l.length ≤ B.cells.length ∧ (∀ m, H'.get m = if m = b then some ⟨B.T, B.es, B.opn, splice B.cells o l⟩ else H.get m) ∧ k H' = some r := by
  unfold writeK at h
  obtain ⟨hs, h⟩ := cond_some h
  obtain ⟨B, hB, h⟩ := blkK_some h
  rw [lput_eq] at h
  obtain ⟨hl, h⟩ := if_some h
  obtain ⟨H', hk, hH⟩ := tset_some _ h
  exact ⟨B, H', hs, hB, hl, hH, hk⟩

theorem evStore_ok {t : TypeId} {a v : AV} {H : Heap} {k : Heap → Option R} (h : evStore P t a v H k = some r) :
    ∃ H', k H' = some r ∧ ∀ ρ n w0 w, Rep ρ H n w0 w → v.lt n → ∃ w', (Instr.storeAt t (conc ρ a) (conc ρ v)).run P w = .ok () w' ∧ Rep ρ H' n w0 w' := by
  unfold evStore at h
  split at h
  · rename_i b o
    obtain ⟨l, h, hc, hlt⟩ := cellsK_ok h
    obtain ⟨i, hi, h⟩ := szOf_ok h
    obtain ⟨hn, h⟩ := cond_some h
    obtain ⟨B, H', hs, hB, hl, hH, h⟩ := writeK_some h
    refine ⟨H', h, fun ρ n w0 w hR hv => ?_⟩
    obtain ⟨w', hrun, hR'⟩ := hR.write (P := P) hB hl (hlt n hv) hs hH
    refine ⟨w', ?_, hR'⟩
    have hcc := hc ρ
    have hn' : l.length = i.size := by rw [llen_eq] at hn; exact Nat.eq_of_beq_eq_true hn
    simp only [Instr.storeAt, Instr.sureAddr, storeVar, Sem.run_bind, Sem.run_pure, Result.andThen_ok, conc, hcc, run_size hi]
    simp [concs_length, hn', hrun]
  · cases h

theorem newK_some {H : Heap} {n : Nat} {T : TypeId} {es : Nat} {opn : Bool} {cells : List AV} {k : Heap → Nat → Option R} (h : newK H n T es opn cells k = some r) :
    ∃ H', (∀ m, H'.get m = if m = n then some ⟨T, es, opn, cells⟩ else H.get m) ∧ k H' (n + 1) = some r := by
  unfold newK at h
  obtain ⟨_, h⟩ := cond_some h
  obtain ⟨H', hk, hH⟩ := tset_some _ h
  exact ⟨H', hH, hk⟩

theorem Rep.lt_heap {ρ : Env} {H : Heap} {n : Nat} {w0 w : World} (h : Rep ρ H n w0 w) {b : Nat} {B : Blk} (hB : H.get b = some B) : ρ.blk b < w.heap.size := by
  obtain ⟨cs, lo, hi, r1, _⟩ := (h.ok b B hB).row
  exact (Array.getElem?_eq_some_iff.1 r1).1

theorem Rep.fr_alloc {ρ : Env} {H : Heap} {n : Nat} {w0 w : World} (h : Rep ρ H n w0 w) (x : Obj) : ∀ g' o, ρ.fr g' = some o → (w.alloc x).heap[g']? = some o := fun g' o hg' => by
  have h1 := h.frame g' o hg'
  rw [Below.heap_alloc _ _ _ (Array.getElem?_eq_some_iff.1 h1).1]; exact h1

theorem Rep.new {ρ : Env} {H H' : Heap} {n : Nat} {w0 w : World} {T : TypeId} {es c : Nat} {opn : Bool} {cells : List AV} {cs : Array Value} (h : Rep ρ H n w0 w)
    (hH : ∀ m, H'.get m = if m = n then some ⟨T, es, opn, cells⟩ else H.get m) (hc : ∀ v ∈ cells, v.lt n) (hcs : ∀ (i : Nat) v, cells[i]? = some v → cs[i]? = some (conc ρ v))
    (ho : opn = true → 0 < es ∧ c * es = cs.size) (hn : opn = false → cs.size = cells.length) :
    ∃ ρ', Ext n ρ ρ' ∧ ρ'.blk n = w.heap.size ∧ ρ'.sh n = 0 ∧ ρ'.cap n = c ∧ Rep ρ' H' (n + 1) w0 (w.alloc (.cells cs T)) := by
  refine h.add hH (h.upd.alloc _) h.upd.size (h.fr_alloc _) h.fr_new (fun b B' hb => ⟨by have := h.lt_heap hb; omega, Below.heap_alloc _ _ _ (h.lt_heap hb)⟩) hc ⟨cs, 0, 0, heap_alloc_new w _, .inl rfl, fun i v hv => ?_, fun e => ?_, fun e => ⟨rfl, hn e⟩⟩
  · rw [Nat.zero_add]; exact hcs i v hv
  · rw [Nat.zero_add]; exact ho e

theorem evBox_ok {t : TypeId} {v : AV} {H : Heap} {n : Nat} {k : AV → Heap → Nat → Option R} (h : evBox t v H n k = some r) :
    ∃ H', k (.ptr n 0) H' (n + 1) = some r ∧ ∀ ρ w0 w, Rep ρ H n w0 w → v.lt n → ∃ ρ' w', Ext n ρ ρ' ∧ (newVar t (conc ρ v)).run P w = .ok (ρ'.addr n 0) w' ∧ Rep ρ' H' (n + 1) w0 w' := by
  unfold evBox at h
  obtain ⟨l, h, hc, hlt⟩ := cellsK_ok h
  obtain ⟨H', hH, h⟩ := newK_some h
  refine ⟨H', h, fun ρ w0 w hR hv => ?_⟩
  obtain ⟨ρ', e1, e2, e3, _, e5⟩ := hR.new (c := 0) (cs := (conc ρ v).cells) hH ((ltAll_iff _ _).1 (hlt n hv)) (fun i x hx => by rw [hc ρ, List.getElem?_toArray, concs_get, hx]; rfl) (fun e => by cases e)
    (fun _ => by rw [hc ρ, List.size_toArray, concs_length])
  exact ⟨ρ', _, e1, by unfold Env.addr; rw [e2, e3]; simp [newVar, newRow, newObj, Sem.run], e5⟩
end
end Go.Proofs.YtnllmelmmcapcaaGreatDoor.Ev
