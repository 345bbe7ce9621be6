/- A region that draws its order, walked in an order that is given as a list. -/
import Derived.Test.YtnllmelmmcapcaaGreatDoorEvW
namespace Go.Proofs.YtnllmelmmcapcaaGreatDoor.Ev
open Go Go.RowKit
set_option linter.unusedVariables false

structure It where
  k : Nat
  o : Oper
  a : Inf

section
variable {P : Program} {ops : Array Oper} {C : World → Prop} {X : Fx}

def wpFxI (P : Program) (C : World → Prop) (X : Fx) (K : Act → World → Prop) : List It → Act → World → Prop
  | [], a, w => K a w
  | it :: l, a, w => if X.eff it.k = true then it.o.wp P a w (fun a' w' => (X.es.contains it.k = true → C w') ∧ wpFxI P C X K l a' w') (fun _ _ _ => False)
    else ∃ v, (∀ w', (X.ls.contains it.k = true → C w') → OReads P it.o a w' v) ∧ wpFxI P C X K l (a.put it.o.dst v) w

def setAll : Array Bool → List It → Array Bool
  | listed, [] => listed
  | listed, it :: l => setAll (listed.setIfInBounds it.k true) l

theorem setAll_size : ∀ (l : List It) (listed : Array Bool), (setAll listed l).size = listed.size
  | [], _ => rfl
  | it :: l, listed => by rw [setAll, setAll_size l]; simp

theorem setAll_true (l : List It) : ∀ (listed : Array Bool) (j : Nat), listed.getD j false = true → (setAll listed l).getD j false = true := by
  induction l with
  | nil => exact fun _ _ h => h
  | cons it l ih => exact fun listed j h => ih _ j (getD_set_true h)

theorem setAll_mem (l : List It) : ∀ (listed : Array Bool) (x : It), x ∈ l → x.k < listed.size → (setAll listed l).getD x.k false = true := by
  induction l with
  | nil => exact fun _ x h _ => by simp at h
  | cons it l ih =>
    intro listed x h hk
    rcases List.mem_cons.1 h with e | h
    · subst e
      refine setAll_true l _ _ ?_
      simp [hk]
    · exact ih _ x h (by simpa using hk)

theorem ready_nil {listed : Array Bool} (hs : listed.size = ops.size) (h : ∀ j, j < ops.size → listed.getD j false = true) : Region.ready .any ops listed = [] := by
  rw [List.eq_nil_iff_forall_not_mem]
  intro j hj
  obtain ⟨hun, o, ho, _⟩ := mem_ready.1 hj
  have hk := (Array.getElem?_eq_some_iff.1 ho).1
  have h1 := h j hk
  have hj' : listed[j]? = some (listed[j]'(by omega)) := Array.getElem?_eq_getElem _
  rw [Array.getD_eq_getD_getElem?, hj'] at h1 hun
  have h1 : listed[j]'(by omega) = true := h1
  have hun : listed[j]'(by omega) = false := hun
  rw [h1] at hun; cases hun

/-- What is asked of the order l, with R behind it. -/
def Ord (X : Fx) (ops : Array Oper) (R : List It) : List It → Array Bool → Prop
  | [], _ => True
  | it :: tl, listed => it.k ∈ Region.ready .any ops listed ∧ (∀ jt ∈ tl ++ R, jt.k ≠ it.k ∧ ((∃ e ∈ jt.o.after, Region.binds .any e = true ∧ e.on = it.k) ∨ it.o.apart ops jt.o = true) ∧
      (X.eff it.k = true → (X.M.getD jt.k 0).testBit it.k = true ∨ (X.eff jt.k = false ∧ it.o.apart ops jt.o = true))) ∧ Ord X ops R tl (listed.setIfInBounds it.k true)

theorem wpAnyF_ord {Q : Act → World → Prop} (hM : X.sound ops) (hL : LsOk X) (hsel : ∀ (j : Nat) (o : Oper) cs b, ops[j]? = some o → o.op ≠ .select cs b) {f : Nat} (R : List It) :
    ∀ (l : List It) (listed : Array Bool) (a : Act) (w : World), (∀ it ∈ l ++ R, ops[it.k]? = some it.o ∧ it.o.guard = none) → Ord X ops R l listed → listed.size = ops.size → Closed X listed → (NoEt X listed → C w) →
      (∀ j, j < ops.size → listed.getD j true = false → ∃ it ∈ l ++ R, it.k = j) →
      wpFxI P C X (fun a' w' => Closed X (setAll listed l) → (NoEt X (setAll listed l) → C w') → wpAnyF P ops C X Q f (setAll listed l) a' w') l a w → wpAnyF P ops C X Q (l.length + f) listed a w
  | [], listed, a, w, _, _, _, hc, hC, _, h => by
    rw [List.length_nil, Nat.zero_add]
    exact h hc hC
  | it :: tl, listed, a, w, hval, hord, hsz, hc, hC, hcov, h => by
    obtain ⟨hr, hfree, hord'⟩ := hord
    obtain ⟨hio, hgd⟩ := hval it (by simp)
    have hw : Region.wanted it.o (yielded ops a.tmps) = true := by simp [Region.wanted, hgd]
    have hkl : it.k < listed.size := by rw [hsz]; exact (Array.getElem?_eq_some_iff.1 hio).1
    have hcov' : ∀ j oj, ops[j]? = some oj → j ≠ it.k → listed.getD j true = false → ∃ jt ∈ tl ++ R, jt.k = j ∧ jt.o = oj := fun j oj hj hne hun => by
      obtain ⟨jt, hjt, rfl⟩ := hcov j (Array.getElem?_eq_some_iff.1 hj).1 hun
      rw [List.cons_append] at hjt
      rcases List.mem_cons.1 hjt with rfl | hjt
      · exact absurd rfl hne
      · have := (hval jt (by rw [List.cons_append]; exact List.mem_cons_of_mem _ hjt)).1
        rw [hj] at this; cases this
        exact ⟨jt, hjt, rfl, rfl⟩
    have hval' : ∀ jt ∈ tl ++ R, ops[jt.k]? = some jt.o ∧ jt.o.guard = none := fun jt hjt => hval jt (by rw [List.cons_append]; exact List.mem_cons_of_mem _ hjt)
    have hcov2 : ∀ j, j < ops.size → (listed.setIfInBounds it.k true).getD j true = false → ∃ jt ∈ tl ++ R, jt.k = j := fun j hj hun => by
      by_cases e : it.k = j
      · subst e
        simp [hkl] at hun
      · rw [getD_set_ne true e] at hun
        obtain ⟨jt, h1, h2, _⟩ := hcov' j _ (Array.getElem?_eq_getElem hj) (Ne.symm e) hun
        exact ⟨jt, h1, h2⟩
    have hlen : (it :: tl).length + f = (tl.length + f) + 1 := by simp; omega
    rw [hlen]
    unfold wpFxI at h
    by_cases he : X.eff it.k = true
    · rw [if_pos he] at h
      refine wpAnyF_eff hM hL hio he hsel (tl.length + f) listed a w hsz hc hC (fun j oj hj hne hun hno => ?_) hr hw ?_
      · obtain ⟨jt, hjt, rfl, rfl⟩ := hcov' j oj hj hne hun
        rcases (hfree jt hjt).2.2 he with h1 | h1
        · rw [hno] at h1; cases h1
        · exact h1
      · refine Oper.wp_mono (fun a' w' hk => ⟨hk.1, wpAnyF_ord hM hL hsel R tl _ a' w' hval' hord' (by simp [hsz]) (hc.add hM hr) (fun hn => ?_) hcov2 hk.2⟩) h
        unfold Fx.eff at he
        rcases Bool.or_eq_true _ _ ▸ he with he | he
        · exact hk.1 he
        · have := hn it.k he
          simp [hkl] at this
    · have he' : X.eff it.k = false := by simpa using he
      rw [if_neg he] at h
      obtain ⟨v, hv, h⟩ := h
      refine wpAnyF_read hio hsel (tl.length + f) listed a w (fun j oj hj hne hun hno => ?_) hr (Or.inl ⟨hw, he', hv⟩)
        (wpAnyF_ord hM hL hsel R tl _ _ w hval' hord' (by simp [hsz]) (hc.add hM hr) (fun hn => hC hn.of_add) hcov2 h)
      obtain ⟨jt, hjt, rfl, rfl⟩ := hcov' j oj hj hne hun
      rcases (hfree jt hjt).2.1 with ⟨e, he, hb, hon⟩ | h1
      · exact absurd hon (hno e he hb)
      · exact h1

/-- Two effects, either of which may come up. -/
theorem wpAnyF_pair {Q : Act → World → Prop} {f : Nat} {listed : Array Bool} {a : Act} {w : World} {x y : It} (hx : ops[x.k]? = some x.o ∧ x.o.guard = none) (hy : ops[y.k]? = some y.o ∧ y.o.guard = none)
    (hex : X.eff x.k = true) (hey : X.eff y.k = true) (hrx : x.k ∈ Region.ready .any ops listed) (hall : ∀ i ∈ Region.ready .any ops listed, i = x.k ∨ i = y.k)
    (h1 : x.o.wp P a w (fun a' w' => (X.es.contains x.k = true → C w') ∧ wpAnyF P ops C X Q f (listed.setIfInBounds x.k true) a' w') (fun _ _ _ => False))
    (h2 : y.k ∈ Region.ready .any ops listed → y.o.wp P a w (fun a' w' => (X.es.contains y.k = true → C w') ∧ wpAnyF P ops C X Q f (listed.setIfInBounds y.k true) a' w') (fun _ _ _ => False)) : wpAnyF P ops C X Q (f + 1) listed a w := by
  refine ⟨fun h => by rw [h] at hrx; simp at hrx, fun i hi => ?_⟩
  unfold fOp
  rcases hall i hi with rfl | rfl
  · simp only [hx.1, show Region.wanted x.o (yielded ops a.tmps) = true by simp [Region.wanted, hx.2], if_true, hex]; exact h1
  · simp only [hy.1, show Region.wanted y.o (yielded ops a.tmps) = true by simp [Region.wanted, hy.2], if_true, hey]; exact h2 hi
end
end Go.Proofs.YtnllmelmmcapcaaGreatDoor.Ev
