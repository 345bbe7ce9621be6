/- What reading, writing, making and forgetting a block does to an abstract memory and to the world. -/
import Derived.Test.YtnllmelmmcapcaaGreatDoorEvR
namespace Go.Proofs.YtnllmelmmcapcaaGreatDoor.Ev
open Go
set_option linter.unusedVariables false

section
variable {R : Type} {P : Program}

theorem lall_iff (f : AV → Bool) (l : List AV) : lall f l = true ↔ ∀ v ∈ l, f v = true := by
  induction l with
  | nil => simp [lall]
  | cons v l ih =>
    have e : lall f (v :: l) = cond (f v) (lall f l) false := rfl
    rw [e]
    cases h : f v <;> simp [h, ih]

theorem scal_one {ρ : Env} {v : AV} (h : scal v = true) : (conc ρ v).oneCell' = true := by
  cases v <;> simp [scal] at h <;> simp only [conc] <;> first | rfl | (split <;> rfl)

theorem blkK_some {H : Heap} {b : Nat} {k : TypeId → Nat → Bool → List AV → Option R} {r : R} (h : blkK H b k = some r) : ∃ B : Blk, H.get b = some B ∧ k B.T B.es B.opn B.cells = some r := by
  unfold blkK at h
  rw [tget_eq] at h
  cases hb : H.get b with
  | none => rw [hb] at h; cases h
  | some B => rw [hb] at h; exact ⟨B, rfl, h⟩

theorem cond_some {c : Bool} {x : Option R} {r : R} (h : cond c x none = some r) : c = true ∧ x = some r := by
  cases c
  · cases h
  · exact ⟨rfl, h⟩

theorem if_some {c : Prop} [Decidable c] {x : Option R} {r : R} (h : (if c then x else none) = some r) : c ∧ x = some r := by
  split at h
  · exact ⟨‹_›, h⟩
  · cases h

theorem readK_some {H : Heap} {b o n : Nat} {k : List AV → Option R} {r : R} (h : readK H b o n k = some r) :
    ∃ (B : Blk) (l : List AV), H.get b = some B ∧ l.length = n ∧ (∀ (i : Nat) v, l[i]? = some v → B.cells[o + i]? = some v) ∧ k l = some r := by
  unfold readK at h
  obtain ⟨B, hB, h⟩ := blkK_some h
  rw [ldrop_eq] at h
  obtain ⟨h1, h⟩ := if_some h
  rw [ltake_eq] at h
  obtain ⟨h2, h⟩ := if_some h
  refine ⟨B, _, hB, ?_, fun i v hv => ?_, h⟩
  · rw [List.length_take]; omega
  · rw [List.getElem?_take] at hv
    split at hv
    · rwa [List.getElem?_drop] at hv
    · cases hv

theorem read1_some {H : Heap} {b o : Nat} {k : AV → Option R} {r : R} (h : read1 H b o k = some r) : ∃ (B : Blk) (v : AV), H.get b = some B ∧ B.cells[o]? = some v ∧ k v = some r := by
  unfold read1 at h
  obtain ⟨B, hB, h⟩ := blkK_some h
  rw [lget_eq] at h
  cases hv : B.cells[o]? with
  | none => rw [hv] at h; cases h
  | some v => rw [hv] at h; exact ⟨B, v, hB, hv, h⟩

variable {ρ : Env} {H : Heap} {n : Nat} {w0 w : World}

theorem addr_add' (ρ : Env) (b o j : Nat) : (ρ.addr b o).add j = ρ.addr b (o + j) := by
  unfold Env.addr Addr.add; split <;> simp_all [Nat.add_assoc]

/-- Cells read. -/
theorem Rep.loads (h : Rep ρ H n w0 w) {b o : Nat} {B : Blk} (hB : H.get b = some B) {l : List AV} (hl : ∀ (i : Nat) v, l[i]? = some v → B.cells[o + i]? = some v) :
    (loadCells (ρ.addr b o) l.length).run P w = .ok (concs ρ l).toArray w ∧ ltAll n l := by
  constructor
  · have := run_loadCells_list (P := P) w (ρ.addr b o) (concs ρ l) (fun j u hj => by
      rw [concs_eq, List.getElem?_map] at hj
      cases hv : l[j]? with
      | none => rw [hv] at hj; cases hj
      | some v =>
        rw [hv] at hj; cases hj
        rw [addr_add']
        exact (h.cell hB (hl j v hv)).1)
    rwa [concs_eq, List.length_map, ← concs_eq] at this
  · rw [ltAll_iff]
    intro v hv
    obtain ⟨i, hi⟩ := List.getElem?_of_mem hv
    exact (h.cell hB (hl i v hi)).2

/-- A row of cells stored over a part of a block that is not frozen there. -/
theorem run_store_row (g o : Nat) (t : TypeId) (fz : Nat × Nat) : ∀ (vs : List Value) (i : Nat) (cur : Array Value) (w : World), w.heap[g]? = some (.cells cur t fz) → (∀ j, j < cur.size → ¬ (fz.1 ≤ j ∧ j < fz.2)) → o + i + vs.length ≤ cur.size → (∀ v ∈ vs, v.oneCell' = true) →
    (storeCells ⟨g, o, none⟩ vs i).run P w = .ok () (w.setRow g (splice cur.toList (o + i) vs).toArray)
  | [], i, cur, w, hg, hz, _, _ => by
    simp only [storeCells, splice, List.append_nil, List.length_nil, Nat.add_zero, List.take_append_drop, Array.toArray_toList]
    rw [setRow_self w g cur t fz hg]
    rfl
  | v :: rest, i, cur, w, hg, hz, hl, h1 => by
    have hi : o + i < cur.size := by simp at hl; omega
    have hadd : (⟨g, o, none⟩ : Addr).add i = ⟨g, o + i, none⟩ := by unfold Addr.add; split <;> simp_all
    have hcell : w.cell? ⟨g, o + i, none⟩ = some cur[o + i] := by simp [World.cell?, hg, hi]
    have hfro : w.frozen? ⟨g, o + i, none⟩ = false := by
      unfold World.frozen?
      simp only [hg]
      rw [← Bool.not_eq_true]
      simp only [Bool.and_eq_true, decide_eq_true_eq]
      exact hz _ hi
    have hst : (store ((⟨g, o, none⟩ : Addr).add i) v).run P w = .ok () (w.setRow g (cur.setIfInBounds (o + i) v)) := by
      rw [hadd, run_store P w _ v _ (h1 v (by simp)), hcell]
      simp [hfro, setCell_eq_setRow w g (o + i) cur t fz v hg]
    have ih := run_store_row g o t fz rest (i + 1) (cur.setIfInBounds (o + i) v) (w.setRow g (cur.setIfInBounds (o + i) v)) (setRow_heap w g cur _ t _ hg) (by simpa using hz) (by simp at hl ⊢; omega) (fun x hx => h1 x (by simp [hx]))
    simp only [storeCells, Sem.run_bind, hst, Result.andThen_ok, ih, setRow_setRow]
    congr 3
    apply List.ext_getElem?
    intro j
    rw [splice_get _ _ _ _ (by simp at hl ⊢; omega), splice_get _ _ _ _ (by simp at hl ⊢; omega)]
    simp only [Array.toList_setIfInBounds, List.getElem?_set, List.length_cons, Array.length_toList]
    by_cases e : j = o + i
    · subst e
      simp [hi, show ¬ o + (i + 1) ≤ o + i by omega]
    · by_cases e1 : o + i ≤ j ∧ j < o + i + (rest.length + 1)
      · obtain ⟨k, hk⟩ : ∃ k, j = o + i + (k + 1) := ⟨j - (o + i) - 1, by omega⟩
        subst hk
        simp only [show o + (i + 1) ≤ o + i + (k + 1) ∧ o + i + (k + 1) < o + (i + 1) + rest.length from by omega, show o + i ≤ o + i + (k + 1) ∧ o + i + (k + 1) < o + i + (rest.length + 1) from by omega, and_self, if_true]
        rw [show o + i + (k + 1) - (o + (i + 1)) = k by omega, show o + i + (k + 1) - (o + i) = k + 1 by omega]
        simp
      · have e2 : ¬ (o + (i + 1) ≤ j ∧ j < o + (i + 1) + rest.length) := by omega
        have e3 : ¬ o + i = j := by omega
        rw [if_neg e2, if_neg e1, if_neg e3]

/-- A block more, or one that is known anew. -/
theorem Rep.add {H' : Heap} {w' : World} {B : Blk} {g s c : Nat} (h : Rep ρ H n w0 w) (hH : ∀ m, H'.get m = if m = n then some B else H.get m) (hu : Upd [] w0 w') (hg : w0.heap.size ≤ g) (hf : ∀ g' o, ρ.fr g' = some o → w'.heap[g']? = some o) (hfg : ρ.fr g = none)
    (hrest : ∀ b B', H.get b = some B' → ρ.blk b ≠ g ∧ w'.heap[ρ.blk b]? = w.heap[ρ.blk b]?) (hB : ∀ v ∈ B.cells, v.lt n)
    (hrow : ∃ cs lo hi, w'.heap[g]? = some (.cells cs B.T (lo, hi)) ∧ Fz lo hi cs.size ∧ (∀ (i : Nat) v, B.cells[i]? = some v → cs[s + i]? = some (conc ρ v)) ∧
      (B.opn = true → 0 < B.es ∧ s + c * B.es = cs.size) ∧ (B.opn = false → s = 0 ∧ cs.size = B.cells.length)) :
    ∃ ρ', Ext n ρ ρ' ∧ ρ'.blk n = g ∧ ρ'.sh n = s ∧ ρ'.cap n = c ∧ Rep ρ' H' (n + 1) w0 w' := by
  refine ⟨{ ρ with blk := fun m => if m = n then g else ρ.blk m, sh := fun m => if m = n then s else ρ.sh m, cap := fun m => if m = n then c else ρ.cap m }, ?_, by simp, by simp, by simp, ?_⟩
  · exact ⟨fun b hb => by simp [show b ≠ n by omega], fun b hb => by simp [show b ≠ n by omega], fun b hb => by simp [show b ≠ n by omega], rfl, rfl, rfl, rfl⟩
  · generalize hρ : ({ ρ with blk := fun m => if m = n then g else ρ.blk m, sh := fun m => if m = n then s else ρ.sh m, cap := fun m => if m = n then c else ρ.cap m } : Env) = ρ'
    have hext : Ext n ρ ρ' := by subst hρ; exact ⟨fun b hb => by simp [show b ≠ n by omega], fun b hb => by simp [show b ≠ n by omega], fun b hb => by simp [show b ≠ n by omega], rfl, rfl, rfl, rfl⟩
    have hn1 : ρ'.blk n = g := by subst hρ; simp
    have hn2 : ρ'.sh n = s := by subst hρ; simp
    have hn3 : ρ'.cap n = c := by subst hρ; simp
    have old : ∀ b B', H'.get b = some B' → (b = n ∧ B' = B) ∨ (b < n ∧ H.get b = some B') := fun b B' hb => by
      rw [hH] at hb
      by_cases e : b = n
      · rw [if_pos e] at hb; cases hb; exact .inl ⟨e, rfl⟩
      · rw [if_neg e] at hb; exact .inr ⟨h.lt b B' hb, hb⟩
    refine ⟨fun b B' hb => ?_, fun b B' hb => ?_, fun b B' hb => ?_, fun b B' hb => ?_, fun b b' B1 B2 hb hb' he => ?_, hu, fun g' o hg' => hf g' o (by rw [← hext.fr]; exact hg'), fun b B' hb => ?_⟩
    · rcases old b B' hb with ⟨rfl, _⟩ | ⟨h1, _⟩ <;> omega
    · rcases old b B' hb with ⟨rfl, _⟩ | ⟨h1, h2⟩
      · rw [hn1]; exact hg
      · rw [hext.blk b h1]; exact h.old b B' h2
    · rcases old b B' hb with ⟨rfl, rfl⟩ | ⟨h1, h2⟩
      · exact fun v hv => AV.lt_mono (by omega) v (hB v hv)
      · exact fun v hv => AV.lt_mono (by omega) v (h.cells b B' h2 v hv)
    · rcases old b B' hb with ⟨rfl, rfl⟩ | ⟨h1, h2⟩
      · obtain ⟨cs, lo, hi, r1, r2, r3, r4, r5⟩ := hrow
        refine ⟨cs, lo, hi, by rw [hn1]; exact r1, r2, fun i v hv => ?_, fun ho => by rw [hn2, hn3]; exact r4 ho, fun ho => by rw [hn2]; exact r5 ho⟩
        rw [hn2, conc_ext hext v (hB v (List.mem_of_getElem? hv))]; exact r3 i v hv
      · obtain ⟨cs, lo, hi, r1, r2, r3, r4, r5⟩ := (h.ok b B' h2).row
        refine ⟨cs, lo, hi, by rw [hext.blk b h1, (hrest b B' h2).2]; exact r1, r2, fun i v hv => ?_, fun ho => by rw [hext.sh b h1, hext.cap b h1]; exact r4 ho, fun ho => by rw [hext.sh b h1]; exact r5 ho⟩
        rw [hext.sh b h1, conc_ext hext v (h.cells b B' h2 v (List.mem_of_getElem? hv))]; exact r3 i v hv
    · rcases old b B1 hb with ⟨rfl, _⟩ | ⟨h1, h2⟩ <;> rcases old b' B2 hb' with ⟨rfl, _⟩ | ⟨h1', h2'⟩
      · rfl
      · rw [hn1, hext.blk b' h1'] at he; exact absurd he.symm (hrest b' B2 h2').1
      · rw [hn1, hext.blk b h1] at he; exact absurd he (hrest b B1 h2).1
      · rw [hext.blk b h1, hext.blk b' h1'] at he; exact h.inj b b' B1 B2 h2 h2' he
    · rw [hext.fr]
      rcases old b B' hb with ⟨rfl, _⟩ | ⟨h1, h2⟩
      · rw [hn1]; exact hfg
      · rw [hext.blk b h1]; exact h.apart b B' h2

/-- A block forgotten. -/
theorem Rep.kill {H' : Heap} {b : Nat} (h : Rep ρ H n w0 w) (hH : ∀ m, H'.get m = if m = b then none else H.get m) : Rep ρ H' n w0 w := by
  have old : ∀ c B, H'.get c = some B → H.get c = some B := fun c B hc => by
    rw [hH] at hc
    split at hc
    · cases hc
    · exact hc
  exact ⟨fun c B hc => h.lt c B (old c B hc), fun c B hc => h.old c B (old c B hc), fun c B hc => h.cells c B (old c B hc), fun c B hc => h.ok c B (old c B hc),
    fun c c' B B' hc hc' => h.inj c c' B B' (old c B hc) (old c' B' hc'), h.upd, h.frame, fun c B hc => h.apart c B (old c B hc)⟩

/-- A block's cells written. -/
theorem Rep.write {H' : Heap} {b o : Nat} {B : Blk} {l : List AV} (h : Rep ρ H n w0 w) (hB : H.get b = some B) (hl : o + l.length ≤ B.cells.length) (hlt : ltAll n l) (hs : lall scal l = true)
    (hH : ∀ m, H'.get m = if m = b then some ⟨B.T, B.es, B.opn, splice B.cells o l⟩ else H.get m) :
    ∃ w', (storeCells (ρ.addr b o) (concs ρ l)).run P w = .ok () w' ∧ Rep ρ H' n w0 w' := by
  obtain ⟨cs, lo, hi, r1, r2, r3, r4, r5⟩ := (h.ok b B hB).row
  have hcs : ∀ i, i < B.cells.length → ρ.sh b + i < cs.size := fun i hi => (Array.getElem?_eq_some_iff.1 (r3 i _ (List.getElem?_eq_getElem hi))).1
  have hlen : (concs ρ l).length = l.length := by rw [concs_eq, List.length_map]
  have hfit : ρ.sh b + o + l.length ≤ cs.size := by
    rcases Nat.eq_zero_or_pos l.length with e | e
    · rw [e]
      rcases Nat.eq_zero_or_pos B.cells.length with e2 | e2
      · cases ho : B.opn with
        | true => obtain ⟨q1, q2⟩ := r4 ho; have : o = 0 := by omega
                  subst this; rw [← q2]; omega
        | false => obtain ⟨q1, q2⟩ := r5 ho; omega
      · have := hcs (B.cells.length - 1) (by omega); omega
    · have := hcs (o + l.length - 1) (by omega); omega
  have hone : ∀ v ∈ concs ρ l, v.oneCell' = true := fun v hv => by
    rw [concs_eq] at hv
    obtain ⟨u, hu, rfl⟩ := List.mem_map.1 hv
    exact scal_one ((lall_iff _ _).1 hs u hu)
  refine ⟨_, run_store_row (P := P) (ρ.blk b) (ρ.sh b + o) B.T (lo, hi) (concs ρ l) 0 cs w r1 r2.free (by rw [hlen]; exact hfit) hone, ?_⟩
  have hget : ∀ c Bc, H'.get c = some Bc → (c = b ∧ Bc = ⟨B.T, B.es, B.opn, splice B.cells o l⟩) ∨ (c ≠ b ∧ H.get c = some Bc) := fun c Bc hc => by
    rw [hH] at hc
    by_cases e : c = b
    · rw [if_pos e] at hc; cases hc; exact .inl ⟨e, rfl⟩
    · rw [if_neg e] at hc; exact .inr ⟨e, hc⟩
  refine ⟨fun c Bc hc => ?_, fun c Bc hc => ?_, fun c Bc hc => ?_, fun c Bc hc => ?_, fun c c' B1 B2 hc hc' he => ?_, h.upd.setRow (.inr (h.old b B hB)) _, fun g' o hg' => ?_, fun c Bc hc => ?_⟩
  · rcases hget c Bc hc with ⟨rfl, _⟩ | ⟨_, h2⟩
    · exact h.lt _ B hB
    · exact h.lt c Bc h2
  · rcases hget c Bc hc with ⟨rfl, _⟩ | ⟨_, h2⟩
    · exact h.old _ B hB
    · exact h.old c Bc h2
  · rcases hget c Bc hc with ⟨rfl, rfl⟩ | ⟨_, h2⟩
    · intro v hv
      simp only [splice, List.mem_append] at hv
      rcases hv with (hv | hv) | hv
      · exact h.cells _ B hB v (List.mem_of_mem_take hv)
      · exact (ltAll_iff _ _).1 hlt v hv
      · exact h.cells _ B hB v (List.mem_of_mem_drop hv)
    · exact h.cells c Bc h2
  · rcases hget c Bc hc with ⟨rfl, rfl⟩ | ⟨hne, h2⟩
    · refine ⟨_, lo, hi, setRow_heap w (ρ.blk c) cs _ B.T (lo, hi) r1, ?_, fun i v hv => ?_, fun ho => ?_, fun ho => ?_⟩
      · rw [List.size_toArray, splice_length _ _ _ (by rw [hlen, Array.length_toList]; exact hfit), Array.length_toList]; exact r2
      · rw [List.getElem?_toArray, splice_get _ _ _ _ (by rw [hlen, Array.length_toList]; exact hfit), hlen]
        change (splice B.cells o l)[i]? = some v at hv
        rw [splice_get _ _ _ _ hl] at hv
        by_cases e : o ≤ i ∧ i < o + l.length
        · rw [if_pos e] at hv
          rw [if_pos (by omega), show ρ.sh c + i - (ρ.sh c + o + 0) = i - o by omega, concs_eq, List.getElem?_map, hv]; rfl
        · rw [if_neg e] at hv
          rw [if_neg (by omega), Array.getElem?_toList]; exact r3 i v hv
      · rw [List.size_toArray, splice_length _ _ _ (by rw [hlen, Array.length_toList]; exact hfit), Array.length_toList]; exact r4 ho
      · rw [List.size_toArray, splice_length _ _ _ (by rw [hlen, Array.length_toList]; exact hfit), Array.length_toList, splice_length _ _ _ hl]; exact r5 ho
    · obtain ⟨cs', lo', hi', q⟩ := (h.ok c Bc h2).row
      exact ⟨cs', lo', hi', by rw [setRow_other w (ρ.blk b) (ρ.blk c) _ (fun e => hne (h.inj c b Bc B h2 hB e))]; exact q.1, q.2⟩
  · rcases hget c B1 hc with ⟨rfl, _⟩ | ⟨n1, h2⟩ <;> rcases hget c' B2 hc' with ⟨rfl, _⟩ | ⟨n2, h2'⟩
    · rfl
    · exact h.inj _ _ _ _ hB h2' he
    · exact h.inj _ _ _ _ h2 hB he
    · exact h.inj _ _ _ _ h2 h2' he
  · rw [setRow_other w (ρ.blk b) g' _ (fun e => by have := h.apart b B hB; rw [← e, hg'] at this; cases this)]
    exact h.frame g' o hg'
  · rcases hget c Bc hc with ⟨rfl, _⟩ | ⟨_, h2⟩
    · exact h.apart _ B hB
    · exact h.apart c Bc h2

theorem Rep.fr_new (h : Rep ρ H n w0 w) : ρ.fr w.heap.size = none := by
  cases e : ρ.fr w.heap.size with
  | none => rfl
  | some o => have := h.frame _ o e; simp at this
end
end Go.Proofs.YtnllmelmmcapcaaGreatDoor.Ev
