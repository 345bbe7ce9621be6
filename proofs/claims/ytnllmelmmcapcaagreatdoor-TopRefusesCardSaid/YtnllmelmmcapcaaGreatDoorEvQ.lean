/- Regions that draw their order: what the walk comes to. -/
import Derived.Test.YtnllmelmmcapcaaGreatDoorEvN
namespace Go.Proofs.YtnllmelmmcapcaaGreatDoor.Ev
open Go Go.RowKit
set_option linter.unusedVariables false

theorem leq_eq : ∀ {a b : List Nat}, leq a b = true → a = b
  | [], [], _ => rfl
  | [], _ :: _, h => by cases h
  | _ :: _, [], h => by cases h
  | x :: a, y :: b, h => by
    have h : cond (Nat.beq x y) (leq a b) false = true := h
    obtain ⟨h1, h2⟩ := cond_t h
    rw [beq_eq' h1, leq_eq h2]

theorem eqS_eq {a b : AV} (h : eqS a b = true) : a = b := by
  unfold eqS at h
  split at h
  case h_4 => rw [leq_eq h]
  all_goals first
    | rfl
    | cases h; done
    | (simp only [Bool.and_eq_true, decide_eq_true_eq, beq_iff_eq, Nat.beq_eq] at h; simp [h])

theorem eqSL_eq : ∀ {a b : List AV}, eqSL a b = true → a = b
  | [], [], _ => rfl
  | [], _ :: _, h => by cases h
  | _ :: _, [], h => by cases h
  | x :: a, y :: b, h => by
    have h : cond (eqS x y) (eqSL a b) false = true := h
    obtain ⟨h1, h2⟩ := cond_t h
    rw [eqS_eq h1, eqSL_eq h2]

theorem eqA_eq {a b : AV} (h : eqA a b = true) : a = b := by
  unfold eqA at h
  split at h
  · rw [eqSL_eq h]
  · exact eqS_eq h

theorem eqI_eq {a b : AV} (h : eqI a b = true) : a = b := by
  unfold eqI at h
  split at h
  · simp only [Bool.and_eq_true] at h
    rw [beq_eq' h.1, eqA_eq h.2]
  · exact eqS_eq h

theorem eqL_eq : ∀ {a b : List AV}, eqL a b = true → a = b
  | [], [], _ => rfl
  | [], _ :: _, h => by cases h
  | _ :: _, [], h => by cases h
  | x :: a, y :: b, h => by
    have h : cond (eqI x y) (eqL a b) false = true := h
    obtain ⟨h1, h2⟩ := cond_t h
    rw [eqI_eq h1, eqL_eq h2]

theorem eqV_eq {a b : AV} (h : eqV a b = true) : a = b := by
  unfold eqV at h
  split at h
  · rw [eqL_eq h]
  · exact eqI_eq h

section
variable {R : Type} {P : Program} {G : Tr (List AV)} {r : R}

/-- The kinds from place j on are those that X tells of. -/
def ClsOk (P : Program) (X : Fx) (l : List Oper) (j : Nat) (cs : List Nat) : Prop :=
  ∀ (i : Nat) o c, l[i]? = some o → cs[i]? = some c → (c = 0 → opCls P o.op = 0 ∧ X.eff (j + i) = false ∧ X.ls.contains (j + i) = false) ∧ (c = 1 → X.eff (j + i) = false ∧ X.ls.contains (j + i) = true) ∧ (c = 2 → X.eff (j + i) = true) ∧ (c = 3 → X.eff (j + i) = true ∧ X.es.contains (j + i) = false)

theorem ClsOk.tail {X : Fx} {o : Oper} {l : List Oper} {j : Nat} {cs : List Nat} (h : ClsOk P X (o :: l) j cs) : ClsOk P X l (j + 1) (cs.drop 1) := by
  intro i o' c ho hc
  have := h (i + 1) o' c (by simpa using ho) (by rw [List.getElem?_drop] at hc; rw [Nat.add_comm]; exact hc)
  rwa [show j + (i + 1) = j + 1 + i by omega] at this

theorem OpPure.reads {o : Oper} {tm : Tr AV} {H : Heap} {n N : Nat} {v : AV} {ρ : Env} {w0 w : World} {a : Act} (h : OpPure P o tm H n v) (hT : RepT ρ n N tm a) (hR : Rep ρ H n w0 w) (w' : World) : OReads P o a w' (conc ρ v) := by
  unfold OReads
  rw [(h ρ w0 N a w hT hR).2 w']
  exact ⟨rfl, rfl⟩

theorem lget0 {cs : List Nat} {k : Nat → Option R} (h : lget cs 0 k = some r) : ∃ c, cs[0]? = some c ∧ k c = some r := by
  rw [lget_eq] at h
  cases hc : cs[0]? with
  | none => rw [hc] at h; cases h
  | some c => rw [hc] at h; exact ⟨c, rfl, h⟩
theorem ldrop1 {cs : List Nat} {k : List Nat → Option R} (h : ldrop cs 1 k = some r) : k (cs.drop 1) = some r := by
  rw [ldrop_eq] at h
  split at h
  · exact h
  · cases h

theorem evDrT_ok {ih : Ih R} {N : Nat} {ops : List Oper} {X : Fx}
    (hop : ∀ o ∈ ops, ∀ {tm : Tr AV} {H : Heap} {n : Nat} {k : AV → Heap → Nat → Option R} {r : R}, evOp P G ih o tm H n k = some r → ∃ v H' n', k v H' n' = some r ∧ OpDoes P G o tm H n v H' n') :
    ∀ (l : List Oper), (∀ o ∈ l, o ∈ ops) → ∀ (j : Nat) (cs : List Nat), ClsOk P X l j cs → ∀ {tm : Tr AV} {H : Heap} {n : Nat} {k : Tr AV → Heap → Nat → Option R}, evDrT P G ih N ops l cs tm H n k = some r →
      ∃ tm' H' n', k tm' H' n' = some r ∧ ∀ (C : World → Prop) ρ w0 a w, GlobOk G w0 → RepT ρ n N tm a → Rep ρ H n w0 w → ∀ Q : Act → World → Prop,
        (∀ ρ' a' w', Ext n ρ ρ' → n ≤ n' → RepT ρ' n' N tm' a' → Rep ρ' H' n' w0 w' → Q a' w') → wpFx P ops.toArray C X Q l j a w
  | [], _, j, cs, _, tm, H, n, k, h => ⟨tm, H, n, h, fun C ρ w0 a w hG hT hR Q hQ => hQ ρ a w (Ext.refl _ _) (Nat.le_refl _) hT hR⟩
  | o :: l, hl, j, cs, hcls, tm, H, n, k, h => by
    have h : (lget cs 0 fun c => ldrop cs 1 fun cs => wantK ops o tm fun want => cond want
      (cond (Nat.beq c 0 || Nat.beq c 3) (evOp P G ih o tm H n fun v H n => putK N o.dst v tm fun tm => evDrT P G ih N ops l cs tm H n k) none)
      (putK N o.dst (.tup []) tm fun tm => evDrT P G ih N ops l cs tm H n k)) = some r := h
    obtain ⟨c, hc, h⟩ := lget0 h
    have h := ldrop1 h
    obtain ⟨b, h, hw⟩ := wantK_ok h
    have hl' : ∀ o ∈ l, o ∈ ops := fun o ho => hl o (List.mem_cons_of_mem _ ho)
    have hc0 := hcls 0 o c rfl hc
    rw [Nat.add_zero] at hc0
    cases b with
    | true =>
      simp only [cond_true] at h
      obtain ⟨hcc, h⟩ := cond_some h
      rw [Bool.or_eq_true] at hcc
      rcases hcc with hcc | hcc
      · obtain ⟨v, h, hd⟩ := evPure_ok (hc0.1 (beq_eq' hcc)).1 h
        obtain ⟨tm1, h, hp⟩ := putK_ok h
        obtain ⟨tm', H', n', h, hrest⟩ := evDrT_ok hop l hl' (j + 1) _ hcls.tail h
        refine ⟨tm', H', n', h, fun C ρ w0 a w hG hT hR Q hQ => ?_⟩
        unfold wpFx
        rw [if_pos (hw ρ n N a hT), if_neg (by rw [(hc0.1 (beq_eq' hcc)).2.1]; simp)]
        exact ⟨_, fun w' _ => hd.reads hT hR w', hrest C ρ w0 _ w hG (hp ρ n a hT (hd ρ w0 N a w hT hR).1) hR Q hQ⟩
      · have hk := hc0.2.2.2 (beq_eq' hcc)
        obtain ⟨v, H1, n1, h, hd⟩ := hop o (hl o (List.mem_cons_self ..)) h
        obtain ⟨tm1, h, hp⟩ := putK_ok h
        obtain ⟨tm', H', n', h, hrest⟩ := evDrT_ok hop l hl' (j + 1) _ hcls.tail h
        refine ⟨tm', H', n', h, fun C ρ w0 a w hG hT hR Q hQ => ?_⟩
        unfold wpFx
        rw [if_pos (hw ρ n N a hT), if_pos hk.1]
        refine Oper.wp_mono (fun a' w' hq => ?_) (hd ρ w0 N a w hG hT hR)
        obtain ⟨ρ1, e1, e2, e3, rfl, e5⟩ := hq
        exact ⟨(fun hh => by rw [hk.2] at hh; cases hh), hrest C ρ1 w0 _ w' hG (hp ρ1 n1 a (hT.mono e1 e2) e3) e5 Q (fun ρ' a' w' f1 f2 f3 f4 => hQ ρ' a' w' (e1.trans e2 f1) (by omega) f3 f4)⟩
    | false =>
      simp only [cond_false] at h
      obtain ⟨tm1, h, hp⟩ := putK_ok h
      obtain ⟨tm', H', n', h, hrest⟩ := evDrT_ok hop l hl' (j + 1) _ hcls.tail h
      refine ⟨tm', H', n', h, fun C ρ w0 a w hG hT hR Q hQ => ?_⟩
      unfold wpFx
      rw [if_neg (by rw [hw ρ n N a hT]; simp)]
      have := hp ρ n a hT (by simp [AV.lt, ltAll])
      simp only [conc, concs] at this
      exact hrest C ρ w0 _ w hG this hR Q hQ
end
end Go.Proofs.YtnllmelmmcapcaaGreatDoor.Ev
