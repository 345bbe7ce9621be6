/- A region that draws its order and holds effects (calls, stores, new blocks), walked once, in the order of the text: the effects come up in one order anyway; what else may come up beside them reads the same in all worlds in which it may come up. -/
import Derived.Orders
import Derived.StillTail
import Derived.Tactics
import Derived.KernelRfl
namespace Go.Proofs.YtnllmelmmcapcaaGreatDoor
open Go
set_option linter.unusedVariables false

/-- Operation o, carried out in w, yields v and leaves w as it is. -/
def OReads (P : Program) (o : Oper) (a : Act) (w : World) (v : Value) : Prop :=
  match (execOp a.eval o).run P w with
  | .ok (.value u) w' => w' = w ∧ u = v
  | .ok .skip w' => w' = w ∧ undef = v
  | _ => False

theorem OReads.inj {P : Program} {o : Oper} {a : Act} {w : World} {v u : Value} (h : OReads P o a w v) (h' : OReads P o a w u) : v = u := by
  unfold OReads at *
  split at h <;> simp_all

/-- What a region's effects are: es keep the class, et need not; ls: the reads that lean on the class; M: of each operation all that come before it, as bits. -/
structure Fx where
  es : List Nat
  et : List Nat
  ls : List Nat
  M : Array Nat

def Fx.eff (X : Fx) (i : Nat) : Bool := X.es.contains i || X.et.contains i

section
variable {P : Program} {ops : Array Oper} {C : World → Prop} {X : Fx}

/-- One operation comes up. -/
def fOp (P : Program) (ops : Array Oper) (C : World → Prop) (X : Fx) (i : Nat) (K : Act → World → Prop) (a : Act) (w : World) : Prop :=
  match ops[i]? with
  | none => K a w
  | some o =>
    if Region.wanted o (yielded ops a.tmps) then
      if X.eff i then o.wp P a w (fun a' w' => (X.es.contains i = true → C w') ∧ K a' w') (fun _ _ _ => False)
      else ∃ v, (∀ w', (X.ls.contains i = true → C w') → OReads P o a w' v) ∧ K (a.put o.dst v) w
    else K (a.put o.dst undef) w

theorem fOp_mono {i : Nat} {a : Act} {w : World} {K K' : Act → World → Prop} (h : ∀ a w, K a w → K' a w) (hh : fOp P ops C X i K a w) : fOp P ops C X i K' a w := by
  unfold fOp at *
  cases ho : ops[i]? with
  | none => simp only [ho] at hh ⊢; exact h _ _ hh
  | some o =>
    simp only [ho] at hh ⊢
    by_cases hw : Region.wanted o (yielded ops a.tmps) = true
    · simp only [hw, if_true] at hh ⊢
      by_cases he : X.eff i = true
      · simp only [he, if_true] at hh ⊢
        exact Oper.wp_mono (fun a w hk => ⟨hk.1, h _ _ hk.2⟩) hh
      · simp only [he, Bool.false_eq_true, if_false] at hh ⊢
        obtain ⟨v, h1, h2⟩ := hh
        exact ⟨v, h1, h _ _ h2⟩
    · simp only [hw, Bool.false_eq_true, if_false] at hh ⊢
      exact h _ _ hh

/-- Whatever order is picked from here on. -/
def wpAnyF (P : Program) (ops : Array Oper) (C : World → Prop) (X : Fx) (Q : Act → World → Prop) : Nat → Array Bool → Act → World → Prop
  | 0, listed, a, w => Region.ready .any ops listed = [] ∧ Q a w
  | fuel + 1, listed, a, w =>
    (Region.ready .any ops listed = [] → Q a w) ∧
    ∀ i ∈ Region.ready .any ops listed, fOp P ops C X i (wpAnyF P ops C X Q fuel (listed.setIfInBounds i true)) a w

/-- M tells no more than what truly comes before. -/
def Fx.sound (X : Fx) (ops : Array Oper) : Prop :=
  ∀ j oj, ops[j]? = some oj → ∀ k, (X.M.getD j 0).testBit k = true → ∃ e ∈ oj.after, Region.binds .any e = true ∧ (e.on = k ∨ (X.M.getD e.on 0).testBit k = true)

def Closed (X : Fx) (listed : Array Bool) : Prop := ∀ j k, listed.getD j false = true → (X.M.getD j 0).testBit k = true → listed.getD k false = true

theorem ready_before (hM : X.sound ops) {listed : Array Bool} (hc : Closed X listed) {j k : Nat} (hj : j ∈ Region.ready .any ops listed) (hk : (X.M.getD j 0).testBit k = true) : listed.getD k false = true := by
  obtain ⟨_, oj, hoj, hall⟩ := mem_ready.1 hj
  obtain ⟨e, he, hb, h⟩ := hM j oj hoj k hk
  have hl := hall e he hb
  rcases h with h | h
  · rw [← h]; exact hl
  · exact hc _ _ hl h

theorem Closed.add (hM : X.sound ops) {listed : Array Bool} (hc : Closed X listed) {i : Nat} (hi : i ∈ Region.ready .any ops listed) : Closed X (listed.setIfInBounds i true) := by
  intro j k hj hk
  by_cases hij : i = j
  · subst hij; exact getD_set_true (ready_before hM hc hi hk)
  · rw [getD_set_ne false hij] at hj
    exact getD_set_true (hc j k hj hk)

theorem unlisted {listed : Array Bool} {i : Nat} (h : listed.getD i true = false) : listed.getD i false = false := by
  rcases Nat.lt_or_ge i listed.size with h' | h'
  · simp [h'] at h ⊢; exact h
  · simp [Array.getElem?_eq_none h'] at h

/-- No effect that need not keep the class has come up. -/
def NoEt (X : Fx) (listed : Array Bool) : Prop := ∀ e, X.et.contains e = true → listed.getD e false = false

theorem NoEt.of_add {listed : Array Bool} {i : Nat} (h : NoEt X (listed.setIfInBounds i true)) : NoEt X listed := fun e he => by
  have := h e he
  cases hl : listed.getD e false with
  | false => rfl
  | true => rw [getD_set_true hl] at this; cases this

/-- A read that leans on the class, ready, not behind any free effect: the class holds now. -/
def LsOk (X : Fx) : Prop := ∀ i e, X.ls.contains i = true → X.et.contains e = true → (X.M.getD e 0).testBit i = true

theorem class_now (hL : LsOk X) {listed : Array Bool} (hc : Closed X listed) {w : World} (hC : NoEt X listed → C w) {i : Nat} (hi : listed.getD i true = false) : X.ls.contains i = true → C w := by
  intro hl
  refine hC fun e he => ?_
  cases hle : listed.getD e false with
  | false => rfl
  | true => have := hc e i hle (hL i e hl he); rw [unlisted hi] at this; cases this

theorem OReads.wp {o : Oper} {a : Act} {w : World} {v : Value} {K : Act → World → Prop} {Q : Exit → Act → World → Prop} (h : OReads P o a w v) (hk : K (a.put o.dst v) w) : o.wp P a w K Q := by
  unfold OReads at h
  unfold Oper.wp
  generalize (execOp a.eval o).run P w = r at *
  cases r with
  | ok n w' =>
    cases n <;> simp only at h <;> simp only [Oper.upon]
    case value u => obtain ⟨rfl, rfl⟩ := h; exact hk
    case skip => obtain ⟨rfl, rfl⟩ := h; exact hk
  | halt x w' => simp only at h

theorem Oper.wp_noQ {o : Oper} {a : Act} {w : World} {K : Act → World → Prop} {Q : Exit → Act → World → Prop} (h : o.wp P a w K (fun _ _ _ => False)) : o.wp P a w K Q := by
  unfold Oper.wp at *
  generalize (execOp a.eval o).run P w = r at *
  cases r with
  | ok n w' =>
    cases n <;> simp only [Oper.upon] at h ⊢ <;> first
      | exact h
      | exact Calls.mono h (fun e w'' he => by
          cases e with
          | returned v => exact he
          | panicked c => exact he.elim
          | outgrown => obtain ⟨_, _, hf⟩ := he; exact hf.elim)
  | halt x w' => cases x <;> simp only [Oper.upon] at h

/-- It is a wpAny. -/
theorem wpAny_of_F {Q : Act → World → Prop} {Q' : Exit → Act → World → Prop} (hM : X.sound ops) (hL : LsOk X) (hQ : ∀ a w, Q a w → Q' .normal a w) : ∀ (fuel : Nat) (listed : Array Bool) (a : Act) (w : World),
    listed.size = ops.size → Closed X listed → (NoEt X listed → C w) → wpAnyF P ops C X Q fuel listed a w → wpAny P .any ops Q' fuel listed a w
  | 0, _, _, _, _, _, _, h => ⟨h.1, hQ _ _ h.2⟩
  | fuel + 1, listed, a, w, hs, hc, hC, h => by
    refine ⟨fun h0 => hQ _ _ (h.1 h0), fun i hi => ?_⟩
    have h1 := h.2 i hi
    have hun := (mem_ready.1 hi).1
    have hc' := hc.add hM hi
    unfold fOp at h1
    unfold wpOp
    cases ho : ops[i]? with
    | none => obtain ⟨_, o, h2, _⟩ := mem_ready.1 hi; rw [ho] at h2; cases h2
    | some o =>
      simp only [ho] at h1 ⊢
      have hil : i < listed.size := by rw [hs]; exact (Array.getElem?_eq_some_iff.1 ho).1
      by_cases hw : Region.wanted o (yielded ops a.tmps) = true
      · simp only [hw, if_true] at h1 ⊢
        refine Or.inl ?_
        by_cases he : X.eff i = true
        · simp only [he, if_true] at h1
          refine Oper.wp_noQ (Oper.wp_mono (fun a' w' hk => wpAny_of_F hM hL hQ fuel _ a' w' (by simp [hs]) hc' (fun hn => ?_) hk.2) h1)
          unfold Fx.eff at he
          rcases Bool.or_eq_true _ _ ▸ he with he | he
          · exact hk.1 he
          · have := hn i he
            simp [hil] at this
        · simp only [he, Bool.false_eq_true, if_false] at h1
          obtain ⟨v, h2, h3⟩ := h1
          exact (h2 w (class_now hL hc hC hun)).wp (wpAny_of_F hM hL hQ fuel _ _ w (by simp [hs]) hc' (fun hn => hC hn.of_add) h3)
      · simp only [hw, Bool.false_eq_true, if_false] at h1 ⊢
        exact wpAny_of_F hM hL hQ fuel _ _ w (by simp [hs]) hc' (fun hn => hC hn.of_add) h1

/-! ### A read is taken first -/

def YF (P : Program) (ops : Array Oper) (C : World → Prop) (X : Fx) (i : Nat) (o : Oper) (v : Value) (a : Act) : Prop :=
  (Region.wanted o (yielded ops a.tmps) = true ∧ X.eff i = false ∧ ∀ w', (X.ls.contains i = true → C w') → OReads P o a w' v) ∨ (Region.wanted o (yielded ops a.tmps) = false ∧ v = undef)

theorem YF.fOp {i : Nat} {o : Oper} {v : Value} {a : Act} {w : World} (hi : ops[i]? = some o) (hy : YF P ops C X i o v a) {K : Act → World → Prop} (h : K (a.put o.dst v) w) : fOp P ops C X i K a w := by
  unfold YtnllmelmmcapcaaGreatDoor.fOp
  simp only [hi]
  rcases hy with ⟨hw, he, hv⟩ | ⟨hw, rfl⟩
  · simp only [hw, he, Bool.false_eq_true, if_true, if_false]; exact ⟨v, hv, h⟩
  · simp only [hw, Bool.false_eq_true, if_false]; exact h

theorem YF.of_same {i : Nat} {o : Oper} {v : Value} {a a' : Act} (hy : YF P ops C X i o v a) (he : execOp a'.eval o = execOp a.eval o)
    (hw : Region.wanted o (yielded ops a'.tmps) = Region.wanted o (yielded ops a.tmps)) : YF P ops C X i o v a' := by
  unfold YF OReads at *
  rw [he, hw]
  exact hy

/-- Operation oj, apart from a read oi whose value is v: whether the value lies in its slot already makes no difference. -/
theorem fOp_put {i j : Nat} {oi oj : Oper} {v : Value} (hj : ops[j]? = some oj) (hap : oi.apart ops oj = true)
    (hsi : ∀ cs b, oi.op ≠ .select cs b) (hsj : ∀ cs b, oj.op ≠ .select cs b) {K : Act → World → Prop} {a : Act} {w : World}
    (hy : YF P ops C X i oi v a) (h : fOp P ops C X j K (a.put oi.dst v) w) :
    fOp P ops C X j (fun a' w' => YF P ops C X i oi v a' ∧ K (a'.put oi.dst v) w') a w := by
  obtain ⟨h1, h2, h3⟩ := Oper.apart_spec hap
  have keep : ∀ (a : Act), YF P ops C X i oi v a → ∀ u, YF P ops C X i oi v (a.put oj.dst u) := fun a hy u =>
    hy.of_same (execOp_put oi hsi a oj.dst u h3) (wanted_put oi a oj.dst u h3)
  have keepD : ∀ d, YF P ops C X i oi v { a with defers := d :: a.defers } := fun d => hy.of_same rfl rfl
  unfold fOp at *
  simp only [hj] at *
  rw [wanted_put oj a oi.dst v h1] at h
  by_cases hw : Region.wanted oj (yielded ops a.tmps) = true
  · simp only [hw, if_true] at h ⊢
    by_cases he : X.eff j = true
    · simp only [he, if_true] at h ⊢
      unfold Oper.wp at *
      rw [execOp_put oj hsj a oi.dst v h1] at h
      generalize (execOp a.eval oj).run P w = r at *
      cases r with
      | ok n w' =>
        cases n <;> simp only [Oper.upon] at h ⊢
        case value u => exact ⟨h.1, keep a hy u, by rw [← Act.put_comm a v u h2]; exact h.2⟩
        case skip => exact ⟨h.1, keep a hy _, by rw [← Act.put_comm a v undef h2]; exact h.2⟩
        case defer d =>
          refine ⟨h.1, keep _ (keepD d) _, ?_⟩
          rw [← Act.put_comm _ v undef h2, ← Act.put_defers]
          exact h.2
        case enter f args =>
          refine Calls.mono h fun e w'' he => ?_
          cases e with
          | returned u => exact ⟨he.1, keep a hy u, by rw [← Act.put_comm a v u h2]; exact he.2⟩
          | panicked c => exact he
          | outgrown => exact he
        case row row args => exact Rows.mono h fun u w'' he => ⟨he.1, keep a hy u, by rw [← Act.put_comm a v u h2]; exact he.2⟩
      | halt x w' => cases x <;> simp only [Oper.upon] at h ⊢
    · simp only [he, Bool.false_eq_true, if_false] at h ⊢
      obtain ⟨u, hu, hk⟩ := h
      refine ⟨u, fun w' hw' => ?_, keep a hy u, by rw [← Act.put_comm a v u h2]; exact hk⟩
      have := hu w' hw'
      unfold OReads at *
      rwa [execOp_put oj hsj a oi.dst v h1] at this
  · simp only [hw, Bool.false_eq_true, if_false] at h ⊢
    exact ⟨keep a hy _, by rw [← Act.put_comm a v undef h2]; exact h⟩

theorem not_waits {listed : Array Bool} {i j : Nat} {oj : Oper} (hun : listed.getD i true = false) (hall : ∀ e ∈ oj.after, Region.binds .any e = true → listed.getD e.on false = true) :
    ∀ e ∈ oj.after, Region.binds .any e = true → e.on ≠ i := fun e he hb heq => by
  have h1 := hall e he hb
  rw [heq, unlisted hun] at h1
  cases h1

theorem wpAnyF_read {Q : Act → World → Prop} {i : Nat} {oi : Oper} {v : Value} (hi : ops[i]? = some oi) (hsel : ∀ (j : Nat) (o : Oper) cs b, ops[j]? = some o → o.op ≠ .select cs b) :
    ∀ (fuel : Nat) (listed : Array Bool) (a : Act) (w : World),
      (∀ j oj, ops[j]? = some oj → j ≠ i → listed.getD j true = false → (∀ e ∈ oj.after, Region.binds .any e = true → e.on ≠ i) → oi.apart ops oj = true) →
      i ∈ Region.ready .any ops listed → YF P ops C X i oi v a →
      wpAnyF P ops C X Q fuel (listed.setIfInBounds i true) (a.put oi.dst v) w → wpAnyF P ops C X Q (fuel + 1) listed a w := by
  intro fuel
  induction fuel with
  | zero =>
    intro listed a w _ hr hy H
    refine ⟨fun h => (by rw [h] at hr; cases hr), fun j hj => ?_⟩
    by_cases hji : j = i
    · subst hji; exact hy.fOp hi H
    · have := ready_mono hj hji
      rw [H.1] at this
      cases this
  | succ fuel ih =>
    intro listed a w hfree hr hy H
    refine ⟨fun h => (by rw [h] at hr; cases hr), fun j hj => ?_⟩
    by_cases hji : j = i
    · subst hji; exact hy.fOp hi H
    · have h1 := H.2 j (ready_mono hj hji)
      obtain ⟨hjun, oj, hoj, hall⟩ := mem_ready.1 hj
      have hnot := not_waits (i := i) (j := j) (mem_ready.1 hr).1 hall
      have h2 := fOp_put hoj (hfree j oj hoj hji hjun hnot) (fun cs b => hsel i oi cs b hi) (fun cs b => hsel j oj cs b hoj) hy h1
      have hfree' : ∀ k ok, ops[k]? = some ok → k ≠ i → (listed.setIfInBounds j true).getD k true = false →
          (∀ e ∈ ok.after, Region.binds .any e = true → e.on ≠ i) → oi.apart ops ok = true := fun k ok hk hki hun hno => by
        refine hfree k ok hk hki ?_ hno
        by_cases hjk : j = k
        · subst hjk; exact hjun
        · rw [getD_set_ne true hjk] at hun; exact hun
      refine fOp_mono (fun a' w' h3 => ih (listed.setIfInBounds j true) a' w' hfree' (ready_mono hr (Ne.symm hji)) h3.1 ?_) h2
      rw [Array.setIfInBounds_comm _ _ hji]
      exact h3.2

/-! ### An effect is taken first: what else may come up now only reads -/

/-- The effect's outcome: its slot is written, nothing else of the frame. -/
theorem Oper.wp_shape {o : Oper} {a : Act} {w : World} {K : Act → World → Prop} (h : o.wp P a w K (fun _ _ _ => False)) :
    o.wp P a w (fun a' w' => (∃ ds u, a' = ({ a with defers := ds } : Act).put o.dst u) ∧ K a' w') (fun _ _ _ => False) := by
  unfold Oper.wp at *
  generalize (execOp a.eval o).run P w = r at *
  cases r with
  | ok n w' =>
    cases n <;> simp only [Oper.upon] at h ⊢
    case value u => exact ⟨⟨a.defers, u, rfl⟩, h⟩
    case skip => exact ⟨⟨a.defers, _, rfl⟩, h⟩
    case defer d => exact ⟨⟨_, _, rfl⟩, h⟩
    case enter f args =>
      refine Calls.mono h fun e w'' he => ?_
      cases e with
      | returned u => exact ⟨⟨a.defers, u, rfl⟩, he⟩
      | panicked c => exact he
      | outgrown => obtain ⟨_, _, hf⟩ := he; exact hf.elim
    case row row args => exact Rows.mono h fun u w'' he => ⟨⟨a.defers, u, rfl⟩, he⟩
  | halt x w' => cases x <;> simp only [Oper.upon] at h ⊢

/-- There is an outcome. -/
theorem Oper.wp_some {o : Oper} {a : Act} {w : World} {K : Act → World → Prop} (h : o.wp P a w K (fun _ _ _ => False)) : ∃ a' w', K a' w' := by
  unfold Oper.wp at *
  generalize (execOp a.eval o).run P w = r at *
  cases r with
  | ok n w' =>
    cases n <;> simp only [Oper.upon] at h
    case value u => exact ⟨_, _, h⟩
    case skip => exact ⟨_, _, h⟩
    case defer d => exact ⟨_, _, h⟩
    case enter f args =>
      obtain ⟨e, w'', fr, hR, _⟩ := h []
      cases e with
      | returned u => exact ⟨_, _, hR⟩
      | panicked c => exact hR.elim
      | outgrown => obtain ⟨_, _, hf⟩ := hR; exact hf.elim
    case row row args =>
      obtain ⟨v, w'', hR, _⟩ := h default []
      exact ⟨_, _, hR⟩
  | halt x w' => cases x <;> simp only [Oper.upon] at h

/-- The effect run beside a slot that it does not look at. -/
theorem Oper.wp_beside {oi oj : Oper} {a : Act} {w : World} {v : Value} {K K' : Act → World → Prop} (hap : oi.apart ops oj = true) (hsi : ∀ cs b, oi.op ≠ .select cs b)
    (hK : ∀ ds u w', K (({ a with defers := ds } : Act).put oi.dst u) w' → K' ((({ a with defers := ds } : Act).put oi.dst u).put oj.dst v) w') (h : oi.wp P a w K (fun _ _ _ => False)) : oi.wp P (a.put oj.dst v) w K' (fun _ _ _ => False) := by
  obtain ⟨h1, h2, h3⟩ := Oper.apart_spec hap
  unfold Oper.wp at *
  rw [execOp_put oi hsi a oj.dst v h3]
  have cm : ∀ u, (a.put oi.dst u).put oj.dst v = (a.put oj.dst v).put oi.dst u := fun u => Act.put_comm a u v h2
  generalize (execOp a.eval oi).run P w = r at *
  cases r with
  | ok n w' =>
    cases n <;> simp only [Oper.upon] at h ⊢
    case value u => rw [← cm]; exact hK a.defers _ _ h
    case skip => rw [← cm]; exact hK a.defers _ _ h
    case defer d =>
      have := hK _ _ _ h
      rw [Act.put_comm _ undef v h2, ← Act.put_defers] at this
      exact this
    case enter f args =>
      refine Calls.mono h fun e w'' he => ?_
      cases e with
      | returned u => show K' ((a.put oj.dst v).put oi.dst u) w''; rw [← cm]; exact hK a.defers _ _ he
      | panicked c => exact he
      | outgrown => obtain ⟨_, _, hf⟩ := he; exact hf.elim
    case row row args => exact Rows.mono h fun u w'' he => by rw [← cm]; exact hK a.defers _ _ he
  | halt x w' => cases x <;> simp only [Oper.upon] at h ⊢

theorem wpAnyF_eff {Q : Act → World → Prop} {i : Nat} {oi : Oper} (hM : X.sound ops) (hL : LsOk X) (hi : ops[i]? = some oi) (hei : X.eff i = true)
    (hsel : ∀ (j : Nat) (o : Oper) cs b, ops[j]? = some o → o.op ≠ .select cs b) :
    ∀ (fuel : Nat) (listed : Array Bool) (a : Act) (w : World), listed.size = ops.size → Closed X listed → (NoEt X listed → C w) →
      (∀ j oj, ops[j]? = some oj → j ≠ i → listed.getD j true = false → (X.M.getD j 0).testBit i = false → X.eff j = false ∧ oi.apart ops oj = true) →
      i ∈ Region.ready .any ops listed → Region.wanted oi (yielded ops a.tmps) = true →
      oi.wp P a w (fun a' w' => (X.es.contains i = true → C w') ∧ wpAnyF P ops C X Q fuel (listed.setIfInBounds i true) a' w') (fun _ _ _ => False) → wpAnyF P ops C X Q (fuel + 1) listed a w := by
  intro fuel
  induction fuel with
  | zero =>
    intro listed a w _ _ _ _ hr hwt H
    refine ⟨fun h => (by rw [h] at hr; cases hr), fun j hj => ?_⟩
    by_cases hji : j = i
    · subst hji; unfold fOp; simp only [hi, hwt, hei, if_true]; exact H
    · obtain ⟨_, _, _, h0⟩ := Oper.wp_some H
      have := ready_mono hj hji
      rw [h0.1] at this
      cases this
  | succ fuel ih =>
    intro listed a w hs hc hC hfree hr hwt H
    refine ⟨fun h => (by rw [h] at hr; cases hr), fun j hj => ?_⟩
    by_cases hji : j = i
    · subst hji; unfold fOp; simp only [hi, hwt, hei, if_true]; exact H
    · obtain ⟨hjun, oj, hoj, hall⟩ := mem_ready.1 hj
      have hMj : (X.M.getD j 0).testBit i = false := by
        cases hb : (X.M.getD j 0).testBit i with
        | false => rfl
        | true => have := ready_before hM hc hj hb; rw [unlisted (mem_ready.1 hr).1] at this; cases this
      obtain ⟨hej, hap⟩ := hfree j oj hoj hji hjun hMj
      obtain ⟨q1, q2, q3⟩ := Oper.apart_spec hap
      have hsi := fun cs b => hsel i oi cs b hi
      have hsj := fun cs b => hsel j oj cs b hoj
      have hjr := ready_mono hj hji
      -- what j yields, now and behind the effect
      have later : ∀ ds u w', wpAnyF P ops C X Q (fuel + 1) (listed.setIfInBounds i true) (({ a with defers := ds } : Act).put oi.dst u) w' →
          YtnllmelmmcapcaaGreatDoor.fOp P ops C X j (wpAnyF P ops C X Q fuel ((listed.setIfInBounds i true).setIfInBounds j true)) (({ a with defers := ds } : Act).put oi.dst u) w' := fun ds u w' h => h.2 j hjr
      have hwt' : ∀ ds u, Region.wanted oj (yielded ops (({ a with defers := ds } : Act).put oi.dst u).tmps) = Region.wanted oj (yielded ops a.tmps) := fun ds u =>
        wanted_put oj ({ a with defers := ds } : Act) oi.dst u q1
      have hfree' : ∀ k ok, ops[k]? = some ok → k ≠ i → (listed.setIfInBounds j true).getD k true = false → (X.M.getD k 0).testBit i = false → X.eff k = false ∧ oi.apart ops ok = true := fun k ok hk hki hun hno => by
        refine hfree k ok hk hki ?_ hno
        by_cases hjk : j = k
        · subst hjk; exact hjun
        · rw [getD_set_ne true hjk] at hun; exact hun
      have hcl := class_now hL hc hC hjun
      have go : ∀ v, (∀ ds u w', wpAnyF P ops C X Q (fuel + 1) (listed.setIfInBounds i true) (({ a with defers := ds } : Act).put oi.dst u) w' → wpAnyF P ops C X Q fuel ((listed.setIfInBounds j true).setIfInBounds i true) ((({ a with defers := ds } : Act).put oi.dst u).put oj.dst v) w') →
          wpAnyF P ops C X Q (fuel + 1) (listed.setIfInBounds j true) (a.put oj.dst v) w := by
        intro v hv
        refine ih _ _ w (by simp [hs]) (hc.add hM hj) (fun hn => hC hn.of_add) hfree' (ready_mono hr (Ne.symm hji)) (by rw [wanted_put oi a oj.dst v q3]; exact hwt) ?_
        exact Oper.wp_beside hap hsi (fun ds u w' hk => ⟨hk.1, hv ds u w' hk.2⟩) H
      unfold fOp
      simp only [hoj, hej, Bool.false_eq_true, if_false]
      by_cases hw : Region.wanted oj (yielded ops a.tmps) = true
      · simp only [hw, if_true]
        obtain ⟨a1, w1, ⟨⟨d1, u1, rfl⟩, _, h1⟩⟩ := Oper.wp_some (Oper.wp_shape H)
        have h2 := later d1 u1 w1 h1
        unfold fOp at h2
        simp only [hoj, hej, Bool.false_eq_true, if_false, hwt', hw, if_true] at h2
        obtain ⟨v, hv, _⟩ := h2
        have back : ∀ ds u v' w', OReads P oj (({ a with defers := ds } : Act).put oi.dst u) w' v' → OReads P oj a w' v' := fun ds u v' w' h => by
          unfold OReads at *; rwa [execOp_put oj hsj ({ a with defers := ds } : Act) oi.dst u q1] at h
        refine ⟨v, fun w' hw' => back _ _ _ _ (hv w' hw'), go v fun ds u w' hk => ?_⟩
        have h3 := later ds u w' hk
        unfold fOp at h3
        simp only [hoj, hej, Bool.false_eq_true, if_false, hwt', hw, if_true] at h3
        obtain ⟨v', hv', h4⟩ := h3
        have : v' = v := OReads.inj (back _ _ _ _ (hv' w hcl)) (back _ _ _ _ (hv w hcl))
        subst this
        rw [Array.setIfInBounds_comm _ _ hji]
        exact h4
      · simp only [hw, Bool.false_eq_true, if_false]
        refine go undef fun ds u w' hk => ?_
        have h3 := later ds u w' hk
        unfold fOp at h3
        simp only [hoj, hwt', hw] at h3
        rw [Array.setIfInBounds_comm _ _ hji]
        exact h3

/-! ### The lexical walk -/

def wpFx (P : Program) (ops : Array Oper) (C : World → Prop) (X : Fx) (Q : Act → World → Prop) : List Oper → Nat → Act → World → Prop
  | [], _, a, w => Q a w
  | o :: rest, k, a, w =>
    if Region.wanted o (yielded ops a.tmps) then
      if X.eff k then o.wp P a w (fun a' w' => (X.es.contains k = true → C w') ∧ wpFx P ops C X Q rest (k + 1) a' w') (fun _ _ _ => False)
      else ∃ v, (∀ w', (X.ls.contains k = true → C w') → OReads P o a w' v) ∧ wpFx P ops C X Q rest (k + 1) (a.put o.dst v) w
    else wpFx P ops C X Q rest (k + 1) (a.put o.dst undef) w

/-- From place k on: what is asked of the text's order. -/
def Fx.lexB (X : Fx) (ops : Array Oper) : Nat → Nat → Array Bool → Bool
  | 0, _, listed => (Region.ready .any ops listed).isEmpty
  | g + 1, k, listed =>
    (Region.ready .any ops listed).contains k && Region.free .any ops listed k &&
    (!X.eff k || (List.range ops.size).all fun j => j == k || listed.getD j true || (X.M.getD j 0).testBit k ||
      (!X.eff j && match ops[k]?, ops[j]? with | some ok, some oj => ok.apart ops oj | _, _ => false)) &&
    X.lexB ops g (k + 1) (listed.setIfInBounds k true)

/-- M, held against the text. -/
def Fx.soundB (X : Fx) (ops : Array Oper) : Bool :=
  (List.range ops.size).all fun j => match ops[j]? with
    | none => true
    | some oj => (List.range (Nat.log2 (X.M.getD j 0) + 1)).all fun k => !(X.M.getD j 0).testBit k || oj.after.any fun e => Region.binds .any e && (e.on == k || (X.M.getD e.on 0).testBit k)

theorem Fx.soundB_spec (h : X.soundB ops = true) : X.sound ops := by
  intro j oj hj k hk
  have hjl : j < ops.size := (Array.getElem?_eq_some_iff.1 hj).1
  have h1 := List.all_eq_true.1 h j (List.mem_range.2 hjl)
  simp only [hj] at h1
  have hkl : k < Nat.log2 (X.M.getD j 0) + 1 := by
    rcases Nat.lt_or_ge k (Nat.log2 (X.M.getD j 0) + 1) with h | h
    · exact h
    · have : (X.M.getD j 0).testBit k = false := Nat.testBit_lt_two_pow (Nat.lt_of_lt_of_le Nat.lt_log2_self (Nat.pow_le_pow_right (by omega) h))
      rw [this] at hk; cases hk
  have h2 := List.all_eq_true.1 h1 k (List.mem_range.2 hkl)
  simp only [hk, Bool.not_true, Bool.false_or] at h2
  obtain ⟨e, he, hb⟩ := Array.any_eq_true'.1 h2
  simp only [Bool.and_eq_true, Bool.or_eq_true, beq_iff_eq] at hb
  exact ⟨e, he, hb.1, hb.2⟩

def Fx.lsB (X : Fx) : Bool := X.ls.all fun i => X.et.all fun e => (X.M.getD e 0).testBit i

theorem Fx.lsB_spec (h : X.lsB = true) : LsOk X := by
  intro i e hi he
  have h1 := List.all_eq_true.1 h i (by simpa using hi)
  exact List.all_eq_true.1 h1 e (by simpa using he)

theorem wpAnyF_lex {Q : Act → World → Prop} (hM : X.sound ops) (hL : LsOk X) (hs : Region.noSelect ops = true) : ∀ (l : List Oper) (k : Nat) (listed : Array Bool) (a : Act) (w : World),
    (∀ j, l[j]? = ops[k + j]?) → listed.size = ops.size → Closed X listed → (NoEt X listed → C w) → X.lexB ops l.length k listed = true → wpFx P ops C X Q l k a w → wpAnyF P ops C X Q l.length listed a w
  | [], _, _, _, _, _, _, _, _, hB, h => ⟨by simpa [Fx.lexB] using hB, h⟩
  | o :: l, k, listed, a, w, hl, hsz, hc, hC, hB, h => by
    have h0 : ops[k]? = some o := by simpa using (hl 0).symm
    have hl' : ∀ j, l[j]? = ops[k + 1 + j]? := fun j => by have := hl (j + 1); simpa [Nat.add_assoc, Nat.add_comm 1 j] using this
    simp only [List.length_cons, Fx.lexB, Bool.and_eq_true] at hB
    obtain ⟨⟨⟨hr, hf⟩, hE⟩, hB'⟩ := hB
    have hr' : k ∈ Region.ready .any ops listed := by simpa using hr
    have hkl : k < listed.size := by rw [hsz]; exact (Array.getElem?_eq_some_iff.1 h0).1
    have hsel := Region.noSelect_spec hs
    unfold wpFx at h
    by_cases hw : Region.wanted o (yielded ops a.tmps) = true
    · simp only [hw, if_true] at h
      by_cases he : X.eff k = true
      · simp only [he, if_true] at h
        simp only [he, Bool.not_true, Bool.false_or] at hE
        refine wpAnyF_eff hM hL h0 he hsel l.length listed a w hsz hc hC (fun j oj hj hne hun hno => ?_) hr' hw ?_
        · have h1 := List.all_eq_true.1 hE j (List.mem_range.2 (Array.getElem?_eq_some_iff.1 hj).1)
          simp only [Bool.or_eq_true, beq_iff_eq, hne, hun, hno, Bool.false_eq_true, false_or, Bool.and_eq_true, Bool.not_eq_true', h0, hj] at h1
          exact h1
        · refine Oper.wp_mono (fun a' w' hk => ⟨hk.1, wpAnyF_lex hM hL hs l (k + 1) _ a' w' hl' (by simp [hsz]) (hc.add hM hr') (fun hn => ?_) hB' hk.2⟩) h
          unfold Fx.eff at he
          rcases Bool.or_eq_true _ _ ▸ he with he | he
          · exact hk.1 he
          · have := hn k he
            simp [hkl] at this
      · have he' : X.eff k = false := by simpa using he
        simp only [he', Bool.false_eq_true, if_false] at h
        obtain ⟨v, hv, h⟩ := h
        exact wpAnyF_read h0 hsel l.length listed a w (Region.free_spec h0 hf) hr' (Or.inl ⟨hw, he', hv⟩)
          (wpAnyF_lex hM hL hs l (k + 1) _ _ w hl' (by simp [hsz]) (hc.add hM hr') (fun hn => hC hn.of_add) hB' h)
    · have hw' : Region.wanted o (yielded ops a.tmps) = false := by simpa using hw
      simp only [hw', Bool.false_eq_true, if_false] at h
      exact wpAnyF_read h0 hsel l.length listed a w (Region.free_spec h0 hf) hr' (Or.inr ⟨hw', rfl⟩)
        (wpAnyF_lex hM hL hs l (k + 1) _ _ w hl' (by simp [hsz]) (hc.add hM hr') (fun hn => hC hn.of_add) hB' h)

/-- ONE WALK OF THE TEXT's ORDER SERVES EVERY ORDER. -/
theorem wp_region_fx {id : Nat} {Q : Exit → Act → World → Prop} {a : Act} {w : World} {l : List Oper} (C : World → Prop) (X : Fx) (hm : P.follows .mixedOrders = true)
    (hB : (Region.noSelect l.toArray && X.soundB l.toArray && X.lsB && X.lexB l.toArray l.length 0 (Array.replicate l.length false)) = true)
    (hC : C w.drew) (h : wpFx P l.toArray C X (fun a' w' => Q .normal a' w') l 0 a w.drew) : (Code.region id l.toArray true).wp P Q a w := by
  simp only [Bool.and_eq_true] at hB
  obtain ⟨⟨⟨hs, hM⟩, hL⟩, hlex⟩ := hB
  refine wp_region_any hm ?_
  have h1 := wpAnyF_lex (C := C) (Q := fun a' w' => Q .normal a' w') (Fx.soundB_spec hM) (Fx.lsB_spec hL) hs l 0 (Array.replicate l.length false) a w.drew (by simp) (by simp)
    (fun j k hj _ => by rw [getD_replicate_false] at hj; cases hj) (fun _ => hC) hlex h
  have h2 := wpAny_of_F (Q' := Q) (Fx.soundB_spec hM) (Fx.lsB_spec hL) (fun _ _ h => h) l.length (Array.replicate l.length false) a w.drew (by simp)
    (fun j k hj _ => by rw [getD_replicate_false] at hj; cases hj) (fun _ => hC) h1
  simpa using h2

/-! ### Steps -/

variable {Q : Act → World → Prop} {k : Nat} {a : Act} {w : World} {o : Oper} {rest : List Oper}

theorem wpFx_nil (h : Q a w) : wpFx P ops C X Q [] k a w := h

/-- A read. -/
theorem wpFx_read (hk : X.eff k = false)
    (h : ∀ K : Act → Prop, (∀ a, wpFx P ops C X Q rest (k + 1) a w → K a) →
      if Region.wanted o (yielded ops a.tmps) then ∃ v, (∀ x : { w' : World // X.ls.contains k = true → C w' }, OReads P o a x.1 v) ∧ K (a.put o.dst v) else K (a.put o.dst undef)) :
    wpFx P ops C X Q (o :: rest) k a w := by
  have := h _ (fun _ h => h)
  unfold wpFx
  simp only [hk, Bool.false_eq_true, if_false]
  split at this
  · rename_i hw
    rw [if_pos hw]
    obtain ⟨v, h1, h2⟩ := this
    exact ⟨v, fun w' hw' => h1 ⟨w', hw'⟩, h2⟩
  · rename_i hw
    rw [if_neg hw]
    exact this

/-- An effect. -/
theorem wpFx_eff (hk : X.eff k = true)
    (h : ∀ K : Act → World → Prop, (∀ a w, (X.es.contains k = true → C w) → wpFx P ops C X Q rest (k + 1) a w → K a w) →
      if Region.wanted o (yielded ops a.tmps) then o.wp P a w K (fun _ _ _ => False) else (X.es.contains k = true → C w) → K (a.put o.dst undef) w) (hC : X.es.contains k = true → C w) :
    wpFx P ops C X Q (o :: rest) k a w := by
  have := h (fun a' w' => (X.es.contains k = true → C w') ∧ wpFx P ops C X Q rest (k + 1) a' w') (fun _ _ h1 h2 => ⟨h1, h2⟩)
  unfold wpFx
  simp only [hk, if_true]
  split at this
  · rename_i hw
    rw [if_pos hw]
    exact this
  · rename_i hw
    rw [if_neg hw]
    exact (this hC).2

/-- A read in whatever world. -/
theorem wpFx_pure (hk : X.eff k = false)
    (h : ∀ K : Act → Prop, (∀ a, wpFx P ops C X Q rest (k + 1) a w → K a) →
      if Region.wanted o (yielded ops a.tmps) then ∃ v, (∀ x : World, OReads P o a x v) ∧ K (a.put o.dst v) else K (a.put o.dst undef)) :
    wpFx P ops C X Q (o :: rest) k a w := by
  refine wpFx_read hk fun K hK => ?_
  have := h K hK
  split at this
  · rename_i hw
    rw [if_pos hw]
    obtain ⟨v, h1, h2⟩ := this
    exact ⟨v, fun x => h1 x.1, h2⟩
  · rename_i hw
    rw [if_neg hw]
    exact this

/-- A read in the class. -/
theorem wpFx_load (hk : X.eff k = false) (hl : X.ls.contains k = true)
    (h : ∀ K : Act → Prop, (∀ a, wpFx P ops C X Q rest (k + 1) a w → K a) →
      if Region.wanted o (yielded ops a.tmps) then ∃ v, (∀ x : { w' : World // C w' }, OReads P o a x.1 v) ∧ K (a.put o.dst v) else K (a.put o.dst undef)) :
    wpFx P ops C X Q (o :: rest) k a w := by
  refine wpFx_read hk fun K hK => ?_
  have := h K hK
  split at this
  · rename_i hw
    rw [if_pos hw]
    obtain ⟨v, h1, h2⟩ := this
    exact ⟨v, fun x => h1 ⟨x.1, x.2 hl⟩, h2⟩
  · rename_i hw
    rw [if_neg hw]
    exact this

/-- An effect that keeps the class. -/
theorem wpFx_es (hk : X.eff k = true) (hg : o.guard = none)
    (h : ∀ K : Act → World → Prop, (∀ a w, C w → wpFx P ops C X Q rest (k + 1) a w → K a w) → o.wp P a w K (fun _ _ _ => False)) :
    wpFx P ops C X Q (o :: rest) k a w := by
  have := h (fun a' w' => (X.es.contains k = true → C w') ∧ wpFx P ops C X Q rest (k + 1) a' w') (fun _ _ h1 h2 => ⟨fun _ => h1, h2⟩)
  unfold wpFx
  rw [if_pos (by simp [Region.wanted, hg]), if_pos hk]
  exact this

/-- A guarded effect that is wanted, and keeps the class. -/
theorem wpFx_esg (hk : X.eff k = true) (hw : Region.wanted o (yielded ops a.tmps) = true)
    (h : ∀ K : Act → World → Prop, (∀ a w, C w → wpFx P ops C X Q rest (k + 1) a w → K a w) → o.wp P a w K (fun _ _ _ => False)) :
    wpFx P ops C X Q (o :: rest) k a w := by
  have := h (fun a' w' => (X.es.contains k = true → C w') ∧ wpFx P ops C X Q rest (k + 1) a' w') (fun _ _ h1 h2 => ⟨fun _ => h1, h2⟩)
  unfold wpFx
  rw [if_pos hw, if_pos hk]
  exact this

/-- An effect that need not. -/
theorem wpFx_et (hk : X.eff k = true) (hn : X.es.contains k = false) (hg : o.guard = none)
    (h : ∀ K : Act → World → Prop, (∀ a w, wpFx P ops C X Q rest (k + 1) a w → K a w) → o.wp P a w K (fun _ _ _ => False)) :
    wpFx P ops C X Q (o :: rest) k a w := by
  have := h (fun a' w' => (X.es.contains k = true → C w') ∧ wpFx P ops C X Q rest (k + 1) a' w') (fun _ _ h2 => ⟨(fun hh => by rw [hn] at hh; cases hh), h2⟩)
  unfold wpFx
  rw [if_pos (by simp [Region.wanted, hg]), if_pos hk]
  exact this

/-- The region, what comes before what reckoned off its text. -/
theorem wp_region_fxl {id : Nat} {Q : Exit → Act → World → Prop} {a : Act} {w : World} {l : List Oper} (C : World → Prop) (es et ls : List Nat) (hm : P.follows .mixedOrders = true)
    (hB : (Region.noSelect l.toArray && (Fx.mk es et ls (Region.before l.toArray)).soundB l.toArray && (Fx.mk es et ls (Region.before l.toArray)).lsB && (Fx.mk es et ls (Region.before l.toArray)).lexB l.toArray l.length 0 (Array.replicate l.length false)) = true)
    (hC : C w.drew) (h : ∀ M, wpFx P l.toArray C (Fx.mk es et ls M) (fun a' w' => Q .normal a' w') l 0 a w.drew) : (Code.region id l.toArray true).wp P Q a w :=
  wp_region_fx C (Fx.mk es et ls (Region.before l.toArray)) hm hB hC (h _)

attribute [go_sem] OReads

end
end Go.Proofs.YtnllmelmmcapcaaGreatDoor
