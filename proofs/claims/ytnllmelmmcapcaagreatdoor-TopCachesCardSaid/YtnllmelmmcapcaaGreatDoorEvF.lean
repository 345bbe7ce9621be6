/- Regions in the text's order, code. -/
import Derived.Test.YtnllmelmmcapcaaGreatDoorEvE
import Derived.Test.YtnllmelmmcapcaaGreatDoorFx
namespace Go.Proofs.YtnllmelmmcapcaaGreatDoor.Ev
open Go Go.RowKit
set_option linter.unusedVariables false

section
variable {R : Type} {P : Program} {G : Gl} {r : R}

theorem RepT.mono {ρ ρ' : Env} {n n' N : Nat} {tm : Tr AV} {a : Act} (h : RepT ρ n N tm a) (he : Ext n ρ ρ') (hn : n ≤ n') : RepT ρ' n' N tm a :=
  ⟨h.size, h.defers, fun t v hv => by
    obtain ⟨h1, h2⟩ := h.tmp t v hv
    exact ⟨AV.lt_mono hn v h1, by rw [conc_ext he v h1]; exact h2⟩⟩

theorem putK_ok {N : Nat} {d : Option Tmp} {v : AV} {tm : Tr AV} {k : Tr AV → Option R} (h : putK N d v tm k = some r) :
    ∃ tm', k tm' = some r ∧ ∀ ρ n a, RepT ρ n N tm a → v.lt n → RepT ρ n N tm' (a.put d (conc ρ v)) := by
  unfold putK at h
  cases d with
  | none => exact ⟨tm, h, fun ρ n a hT _ => hT⟩
  | some d =>
    obtain ⟨hd, h⟩ := cond_some h
    have hd := blt_lt hd
    obtain ⟨tm', h, hg⟩ := tset_some _ h
    refine ⟨tm', h, fun ρ n a hT hv => ⟨by simp [Act.put, hT.size], by simp [Act.put, hT.defers], fun t u hu => ?_⟩⟩
    rw [hg] at hu
    by_cases e : t = d
    · subst e
      rw [if_pos rfl] at hu
      cases hu
      refine ⟨hv, ?_⟩
      have := hT.size
      simp [Act.put, this, hd]
    · rw [if_neg e] at hu
      obtain ⟨h1, h2⟩ := hT.tmp t u hu
      refine ⟨h1, ?_⟩
      simp only [Act.put, Array.getElem?_setIfInBounds]
      rw [if_neg (fun e' => e e'.symm)]; exact h2

theorem wantK_ok {ops : List Oper} {o : Oper} {tm : Tr AV} {k : Bool → Option R} (h : wantK ops o tm k = some r) :
    ∃ b, k b = some r ∧ ∀ ρ n N a, RepT ρ n N tm a → Region.wanted o (yielded ops.toArray a.tmps) = b := by
  unfold wantK at h
  cases hg : o.guard with
  | none => rw [hg] at h; exact ⟨true, h, fun ρ n N a _ => by simp [Region.wanted, hg]⟩
  | some jw =>
    obtain ⟨j, want⟩ := jw
    rw [hg] at h
    obtain ⟨oj, hj, h⟩ := lgetL h
    cases hd : oj.dst with
    | none =>
      rw [hd] at h
      exact ⟨false, h, fun ρ n N a _ => by simp [Region.wanted, hg, yielded, hj, hd]⟩
    | some d =>
      rw [hd] at h
      change tget tm d _ = _ at h
      rw [tget_eq] at h
      cases hv : tm.get d with
      | none => rw [hv] at h; cases h
      | some v =>
        rw [hv] at h
        have hcase : (∃ b, v = .bool b ∧ boolK (b == want) k = some r) ∨ ((∀ b, v ≠ .bool b) ∧ (∀ j, v ≠ .any j) ∧ k false = some r) := by
          cases v with
          | bool b => exact .inl ⟨b, rfl, h⟩
          | any j => cases h
          | _ => exact .inr ⟨by simp, by simp, h⟩
        rcases hcase with ⟨b, rfl, h'⟩ | ⟨hnb, hna, h'⟩
        · rw [boolK_eq] at h'
          refine ⟨_, h', fun ρ n N a hT => ?_⟩
          obtain ⟨_, h2⟩ := hT.tmp d _ hv
          simp [Region.wanted, hg, yielded, hj, hd, h2, conc]
        · refine ⟨false, h', fun ρ n N a hT => ?_⟩
          obtain ⟨_, h2⟩ := hT.tmp d _ hv
          have : yielded ops.toArray a.tmps j = none := by
            simp only [yielded, List.getElem?_toArray, hj, Option.bind_some, hd, h2]
            cases v with
            | bool b => exact (hnb b rfl).elim
            | any j' => exact (hna j' rfl).elim
            | slz _ _ _ _ => simp only [conc]; split <;> first | rfl | (rename_i he; split at he <;> cases he)
            | _ => simp only [conc]
          simp [Region.wanted, hg, this]

theorem evOps_ok {ih : Ih R} {N : Nat} {ops : List Oper}
    (hop : ∀ o ∈ ops, ∀ {tm : Tr AV} {H : Heap} {n : Nat} {k : AV → Heap → Nat → Option R} {r : R}, evOp P G ih o tm H n k = some r → ∃ v H' n', k v H' n' = some r ∧ OpDoes P G o tm H n v H' n') :
    ∀ (l : List Oper), (∀ o ∈ l, o ∈ ops) → ∀ {tm : Tr AV} {H : Heap} {n : Nat} {k : Tr AV → Heap → Nat → Option R}, evOps P G ih N ops l tm H n k = some r →
      ∃ tm' H' n', k tm' H' n' = some r ∧ ∀ ρ w0 a w, GlobOk G w0 → RepT ρ n N tm a → Rep ρ H n w0 w → ∀ Q : Exit → Act → World → Prop,
        (∀ ρ' a' w', Ext n ρ ρ' → n ≤ n' → RepT ρ' n' N tm' a' → Rep ρ' H' n' w0 w' → Q .normal a' w') → wpList P ops.toArray Q l a w
  | [], _, tm, H, n, k, h => ⟨tm, H, n, h, fun ρ w0 a w hG hT hR Q hQ => hQ ρ a w (Ext.refl _ _) (Nat.le_refl _) hT hR⟩
  | o :: l, hl, tm, H, n, k, h => by
    have h : (wantK ops o tm fun c => cond c (evOp P G ih o tm H n fun v H n => putK N o.dst v tm fun tm => evOps P G ih N ops l tm H n k) (putK N o.dst (.tup []) tm fun tm => evOps P G ih N ops l tm H n k)) = some r := h
    obtain ⟨b, h, hw⟩ := wantK_ok h
    cases b with
    | true =>
      simp only [cond_true] at h
      obtain ⟨v, H1, n1, h, hd⟩ := hop o (hl o (List.mem_cons_self ..)) h
      obtain ⟨tm1, h, hp⟩ := putK_ok h
      obtain ⟨tm', H', n', h, hrest⟩ := evOps_ok hop l (fun o ho => hl o (List.mem_cons_of_mem _ ho)) h
      refine ⟨tm', H', n', h, fun ρ w0 a w hG hT hR Q hQ => ?_⟩
      unfold wpList
      rw [if_pos (hw ρ n N a hT)]
      refine .inl (Oper.wp_noQ (Oper.wp_mono (fun a' w' hk => ?_) (hd ρ w0 N a w hG hT hR)))
      obtain ⟨ρ1, e1, e2, e3, rfl, e5⟩ := hk
      exact hrest ρ1 w0 _ w' hG (hp ρ1 n1 a (hT.mono e1 e2) e3) e5 Q (fun ρ' a' w' f1 f2 f3 f4 => hQ ρ' a' w' (e1.trans e2 f1) (by omega) f3 f4)
    | false =>
      simp only [cond_false] at h
      obtain ⟨tm1, h, hp⟩ := putK_ok h
      obtain ⟨tm', H', n', h, hrest⟩ := evOps_ok hop l (fun o ho => hl o (List.mem_cons_of_mem _ ho)) h
      refine ⟨tm', H', n', h, fun ρ w0 a w hG hT hR Q hQ => ?_⟩
      unfold wpList
      rw [if_neg (by rw [hw ρ n N a hT]; simp)]
      have := hp ρ n a hT (by simp [AV.lt, ltAll])
      simp only [conc, concs] at this
      exact hrest ρ w0 _ w hG this hR Q hQ

theorem exitTo_len : ∀ {k k' : List Item} {id : Nat}, exitTo id k = some k' → k'.length < k.length
  | [], _, _, h => by cases h
  | x :: k, k', id, h => by
    cases x <;> simp only [exitTo] at h <;> first
      | (have := exitTo_len h; simp; omega)
      | (split at h
         · cases h; simp
         · have := exitTo_len h; simp; omega)

theorem findLabel_form : ∀ {c : Code} {l : Nat} {x : Code}, findLabel c l = some x → x = .skip ∨ ∃ a b, x = .seq a b := by
  intro c l x h
  cases c <;> simp only [findLabel] at h
  case seq a b =>
    split at h
    · cases h; exact .inr ⟨_, _, rfl⟩
    · exact findLabel_form h
  case label l' =>
    split at h
    · cases h; exact .inl rfl
    · cases h
  all_goals cases h

theorem gotoIn_form : ∀ {k k' : List Item} {l : Nat}, gotoIn l k = some k' → ∃ x k2, k' = .code x :: k2 ∧ (x = .skip ∨ ∃ a b, x = .seq a b)
  | [], _, _, h => by cases h
  | y :: k, k', l, h => by
    cases y <;> simp only [gotoIn] at h <;> first
      | exact gotoIn_form h
      | (split at h
         · rename_i hf; cases h; exact ⟨_, _, rfl, findLabel_form hf⟩
         · exact gotoIn_form h)

/-- A loop's first round, and the loop again. -/
theorem wp_loop_again {c : Code} {Q : Exit → Act → World → Prop} {a : Act} {w : World} (hQ : ∀ e a w, Q e a w → ExOk e) (h : c.wp P (Exit.then ((Code.loop c).wp P Q) Q) a w) : (Code.loop c).wp P Q a w := by
  intro b k cs
  obtain ⟨e, a₁, w₁, hq, harr⟩ := h b (.inLoop c :: k) cs
  cases e with
  | normal =>
    obtain ⟨e₂, a₂, w₂, hq₂, harr₂⟩ := hq b k cs
    have hs1 : Go.step P (lone (b.at a₁ (.code (.loop c) :: k)) cs w₁) = .next (lone (b.at a₁ (.code c :: .inLoop c :: k)) cs w₁) := step_loop
    have strip : ∀ m', m' ≠ lone (b.at a₁ (.code (.loop c) :: k)) cs w₁ → Steps P (lone (b.at a₁ (.code (.loop c) :: k)) cs w₁) m' → Steps P (lone (b.at a₁ (.code c :: .inLoop c :: k)) cs w₁) m' := fun m' hne hst => by
      obtain ⟨n, hn⟩ := hst
      cases n with
      | zero => simp only [runN] at hn; cases hn; exact absurd rfl hne
      | succ n => simp only [runN, hs1] at hn; exact ⟨n, hn⟩
    have todo : ∀ {a a' : Act} {t t' : List Item} {w w' : World}, lone (b.at a t) cs w = lone (b.at a' t') cs w' → t = t' := fun h => by
      simp only [lone, Machine.mk.injEq] at h
      have := h.2.1
      simp [Frame.at] at this
      exact this.2.1
    refine ⟨e₂, a₂, w₂, hq₂, .of_steps (Steps.head step_loop (Steps.trans harr (.one step_inLoop))) ?_⟩
    cases e₂ with
    | normal => exact strip _ (fun e => by have := todo e; exact absurd (congrArg List.length this) (by simp)) harr₂
    | exit id => exact fun k' hk => strip _ (fun e => by have := todo e; have h2 := exitTo_len hk; rw [this] at h2; simp at h2; omega) (harr₂ k' hk)
    | goto l => exact fun k' hk => strip _ (fun e => by
        have := todo e
        obtain ⟨x, k2, rfl, hx⟩ := gotoIn_form hk
        cases this
        rcases hx with hx | ⟨_, _, hx⟩ <;> cases hx) (harr₂ k' hk)
    | ret =>
      obtain ⟨todo', hs⟩ := harr₂
      exact ⟨todo', strip _ (fun e => by
        simp only [lone, Machine.mk.injEq] at e
        have := e.2.1
        simp [Frame.at] at this) hs⟩
    | panic ch => exact (hQ _ _ _ hq₂).elim
    | outgrown => exact (hQ _ _ _ hq₂).elim
  | exit id => exact ⟨_, a₁, w₁, hq, .of_steps (.one step_loop) (.pass (x := .inLoop c) rfl (fun _ _ => .inl (by simp)) harr)⟩
  | goto l => exact ⟨_, a₁, w₁, hq, .of_steps (.one step_loop) (.pass (x := .inLoop c) rfl (fun _ _ => .inl (by simp)) harr)⟩
  | ret => exact ⟨_, a₁, w₁, hq, .of_steps (.one step_loop) (.pass (x := .inLoop c) rfl (fun _ _ => .inl (by simp)) harr)⟩
  | panic ch => exact (hQ _ _ _ hq).elim
  | outgrown => exact (hQ _ _ _ hq).elim
end
end Go.Proofs.YtnllmelmmcapcaaGreatDoor.Ev
