/- Code: what the evaluator computes is what every run comes to. -/
import Derived.Test.YtnllmelmmcapcaaGreatDoorEvG
namespace Go.Proofs.YtnllmelmmcapcaaGreatDoor.Ev
open Go Go.RowKit
set_option linter.unusedVariables false

section
variable {R : Type} {P : Program} {G : Gl} {r : R}

/-- What is left behind. -/
def Left (P : Program) (w0 : World) (ρ : Env) (n N : Nat) (e : Exit) (tm' : Tr AV) (H' : Heap) (n' : Nat) : Exit → Act → World → Prop :=
  fun e' a' w' => e' = e ∧ ∃ ρ', Ext n ρ ρ' ∧ n ≤ n' ∧ RepT ρ' n' N tm' a' ∧ Rep ρ' H' n' w0 w'

theorem CodeDoes.seq {N : Nat} {x y : Code} {tm tm1 tm2 : Tr AV} {H H1 H2 : Heap} {n n1 n2 : Nat} {e : Exit} (h1 : CodeDoes P G N x tm H n .normal tm1 H1 n1) (h2 : CodeDoes P G N y tm1 H1 n1 e tm2 H2 n2) :
    CodeDoes P G N (.seq x y) tm H n e tm2 H2 n2 := by
  intro ρ w0 a w hG hT hR
  refine wp_seq (wp_mono (h1 ρ w0 a w hG hT hR) fun e' a' w' hq => ?_)
  obtain ⟨rfl, ρ1, e1, e2, hT1, hR1⟩ := hq
  refine wp_mono (h2 ρ1 w0 a' w' hG hT1 hR1) fun e' a'' w'' hq => ?_
  obtain ⟨rfl, ρ2, f1, f2, hT2, hR2⟩ := hq
  exact ⟨rfl, ρ2, e1.trans e2 f1, by omega, hT2, hR2⟩

theorem then_of {K : Act → World → Prop} {Q : Exit → Act → World → Prop} {e : Exit} {a : Act} {w : World} (he : e ≠ .normal) (h : Q e a w) : Exit.then K Q e a w := by
  cases e <;> first | exact absurd rfl he | exact h

theorem inBlock_of {id : Nat} {Q : Exit → Act → World → Prop} {e : Exit} {a : Act} {w : World} (he : ∀ j, e = .exit j → j ≠ id) (h : Q e a w) : Exit.inBlock id Q e a w := by
  cases e with
  | exit j =>
    simp only [Exit.inBlock]
    rw [if_neg (he j rfl)]; exact h
  | _ => exact h

theorem evStep_ok (hN : NoCount P G) {D ih : Ih R} (hih : IhOk P G ih) (hD : IhOk P G D) : IhOk P G (evStep P G D ih) := by
  intro N c tm H n k r h
  cases c with
  | skip => exact ⟨_, _, _, _, h, trivial, fun ρ w0 a w hG hT hR => wp_skip ⟨rfl, ρ, Ext.refl _ _, Nat.le_refl _, hT, hR⟩⟩
  | label l => exact ⟨_, _, _, _, h, trivial, fun ρ w0 a w hG hT hR => wp_label ⟨rfl, ρ, Ext.refl _ _, Nat.le_refl _, hT, hR⟩⟩
  | region id ops draw =>
    cases draw with
    | true => exact hD h
    | false =>
      have h : (evOps P G ih N ops.toList ops.toList tm H n fun tm H n => k .normal tm H n) = some r := h
      obtain ⟨tm', H', n', h, hw⟩ := evOps_ok (fun o _ {tm H n k r} h => evOp_ok (fun c ho {k r} h => evCallOp_ok hN hih ho h) h) ops.toList (fun o ho => ho) h
      refine ⟨_, _, _, _, h, trivial, fun ρ w0 a w hG hT hR => wp_region_list ?_⟩
      have := hw ρ w0 a w hG hT hR (Left P w0 ρ n N .normal tm' H' n') (fun ρ' a' w' e1 e2 e3 e4 => ⟨rfl, ρ', e1, e2, e3, e4⟩)
      have h2 : wpList P ops (Left P w0 ρ n N .normal tm' H' n') ops.toList a w := by simpa using this
      exact h2
  | seq x y =>
    have h : (ih N x tm H n fun e tm H n => (match e with | .normal => ih N y tm H n k | e => k e tm H n)) = some r := h
    obtain ⟨e, tm1, H1, n1, h, hx, hd⟩ := hih h
    have hcase : (e = .normal ∧ ih N y tm1 H1 n1 k = some r) ∨ (e ≠ .normal ∧ k e tm1 H1 n1 = some r) := by
      cases e with
      | normal => exact .inl ⟨rfl, h⟩
      | _ => exact .inr ⟨by simp, h⟩
    rcases hcase with ⟨rfl, h⟩ | ⟨hne, h⟩
    · obtain ⟨e2, tm2, H2, n2, h, hx2, hd2⟩ := hih h
      exact ⟨_, _, _, _, h, hx2, hd.seq hd2⟩
    · refine ⟨_, _, _, _, h, hx, fun ρ w0 a w hG hT hR => wp_seq (wp_mono (hd ρ w0 a w hG hT hR) fun e' a' w' hq => ?_)⟩
      obtain ⟨rfl, hq⟩ := hq
      exact then_of hne ⟨rfl, hq⟩
  | cond c x y =>
    have h : (opd c tm fun c => (match c with | .bool c => cond c (ih N x tm H n k) (ih N y tm H n k) | _ => none)) = some r := h
    obtain ⟨cv, h, hc⟩ := opd_ok h
    cases cv with
    | bool b =>
      cases b with
      | true =>
        obtain ⟨e, tm1, H1, n1, h, hx, hd⟩ := hih (k := k) h
        exact ⟨_, _, _, _, h, hx, fun ρ w0 a w hG hT hR => wp_cond_true (by rw [(hc ρ n N a hT).1]; simp only [conc]) (hd ρ w0 a w hG hT hR)⟩
      | false =>
        obtain ⟨e, tm1, H1, n1, h, hx, hd⟩ := hih (k := k) h
        exact ⟨_, _, _, _, h, hx, fun ρ w0 a w hG hT hR => wp_cond_false (by rw [(hc ρ n N a hT).1]; simp only [conc]) (hd ρ w0 a w hG hT hR)⟩
    | _ => cases h
  | block id x =>
    have h : (ih N x tm H n fun e tm H n => (match e with | .exit j => cond (Nat.beq j id) (k .normal tm H n) (k (.exit j) tm H n) | e => k e tm H n)) = some r := h
    obtain ⟨e, tm1, H1, n1, h, hx, hd⟩ := hih h
    have hcase : (∃ j, e = .exit j ∧ j = id ∧ k .normal tm1 H1 n1 = some r) ∨ ((∀ j, e = .exit j → j ≠ id) ∧ k e tm1 H1 n1 = some r) := by
      cases e with
      | exit j =>
        cases hj : Nat.beq j id with
        | true =>
          have h : cond (Nat.beq j id) (k .normal tm1 H1 n1) (k (.exit j) tm1 H1 n1) = some r := h
          rw [hj] at h
          exact .inl ⟨j, rfl, beq_eq' hj, h⟩
        | false =>
          have h : cond (Nat.beq j id) (k .normal tm1 H1 n1) (k (.exit j) tm1 H1 n1) = some r := h
          rw [hj] at h
          exact .inr ⟨fun j' e => by cases e; exact beq_ne' hj, h⟩
      | _ => exact .inr ⟨fun j e => by (first | cases e), h⟩
    rcases hcase with ⟨j, rfl, rfl, h'⟩ | ⟨hne, h'⟩
    · refine ⟨_, _, _, _, h', trivial, fun ρ w0 a w hG hT hR => wp_block (wp_mono (hd ρ w0 a w hG hT hR) fun e' a' w' hq => ?_)⟩
      obtain ⟨rfl, hq⟩ := hq
      simp only [Exit.inBlock, if_true]
      exact ⟨trivial, hq⟩
    · refine ⟨_, _, _, _, h', hx, fun ρ w0 a w hG hT hR => wp_block (wp_mono (hd ρ w0 a w hG hT hR) fun e' a' w' hq' => ?_)⟩
      have he : e' = e := hq'.1
      subst he
      exact inBlock_of hne hq'
  | loop b =>
    have h : (ih N b tm H n fun e tm H n => (match e with | .normal => ih N (.loop b) tm H n k | e => k e tm H n)) = some r := h
    obtain ⟨e, tm1, H1, n1, h, hx, hd⟩ := hih h
    have hcase : (e = .normal ∧ ih N (.loop b) tm1 H1 n1 k = some r) ∨ (e ≠ .normal ∧ k e tm1 H1 n1 = some r) := by
      cases e with
      | normal => exact .inl ⟨rfl, h⟩
      | _ => exact .inr ⟨by simp, h⟩
    rcases hcase with ⟨rfl, h⟩ | ⟨hne, h⟩
    · obtain ⟨e2, tm2, H2, n2, h, hx2, hd2⟩ := hih h
      refine ⟨_, _, _, _, h, hx2, fun ρ w0 a w hG hT hR => wp_loop_again (fun e' a' w' hq => by obtain ⟨rfl, _⟩ := hq; exact hx2) (wp_mono (hd ρ w0 a w hG hT hR) fun e' a' w' hq => ?_)⟩
      obtain ⟨rfl, ρ1, e1, f1, hT1, hR1⟩ := hq
      refine wp_mono (hd2 ρ1 w0 a' w' hG hT1 hR1) fun e' a'' w'' hq => ?_
      obtain ⟨rfl, ρ2, g1, g2, hT2, hR2⟩ := hq
      exact ⟨rfl, ρ2, e1.trans f1 g1, by omega, hT2, hR2⟩
    · refine ⟨_, _, _, _, h, hx, fun ρ w0 a w hG hT hR => wp_loop_again (fun e' a' w' hq => by obtain ⟨rfl, _⟩ := hq; exact hx) (wp_mono (hd ρ w0 a w hG hT hR) fun e' a' w' hq => ?_)⟩
      obtain ⟨rfl, hq⟩ := hq
      exact then_of hne ⟨rfl, hq⟩
  | scope x =>
    have h : (ih N x tm H n fun e tm H n => (match e with | .goto _ => none | e => k e tm H n)) = some r := h
    obtain ⟨e, tm1, H1, n1, h, hx, hd⟩ := hih h
    have hcase : (∀ l, e ≠ .goto l) ∧ k e tm1 H1 n1 = some r := by
      cases e with
      | goto l => cases h
      | _ => exact ⟨fun l => by simp, h⟩
    obtain ⟨hne, h⟩ := hcase
    refine ⟨_, _, _, _, h, hx, fun ρ w0 a w hG hT hR => wp_scope_straight (wp_mono (hd ρ w0 a w hG hT hR) fun e' a' w' hq => ?_)⟩
    have he : e' = e := hq.1
    subst he
    cases e' with
    | goto l => exact absurd rfl (hne l)
    | _ => exact hq
  | exit id => exact ⟨_, _, _, _, h, trivial, fun ρ w0 a w hG hT hR => wp_exit ⟨rfl, ρ, Ext.refl _ _, Nat.le_refl _, hT, hR⟩⟩
  | goto l => exact ⟨_, _, _, _, h, trivial, fun ρ w0 a w hG hT hR => wp_goto ⟨rfl, ρ, Ext.refl _ _, Nat.le_refl _, hT, hR⟩⟩
  | ret => exact ⟨_, _, _, _, h, trivial, fun ρ w0 a w hG hT hR => wp_ret ⟨rfl, ρ, Ext.refl _ _, Nat.le_refl _, hT, hR⟩⟩
  | _ => cases h

theorem ev_ok (hN : NoCount P G) {D : Ih R → Ih R} (hD : ∀ ih, IhOk P G ih → IhOk P G (D ih)) : ∀ fuel, IhOk P G (ev P G D fuel)
  | 0 => fun h => by cases h
  | fuel + 1 => evStep_ok hN (ev_ok hN hD fuel) (hD _ (ev_ok hN hD fuel))

/-- No region that draws its order. -/
noncomputable def noDraw (ih : Ih R) : Ih R := fun _ _ _ _ _ _ => none
theorem noDraw_ok (ih : Ih R) : IhOk P G (noDraw ih) := fun h => by cases h

/-- Nothing is known yet. -/
def env0 : Env := ⟨fun _ => 0, fun _ => 0, fun _ => 0, fun _ => 0, 0, 0, fun _ => .nilFunc, fun _ => none⟩
theorem Rep.start (w : World) : Rep env0 .lf 0 w w :=
  ⟨fun b B hb => (by simp [Tr.get] at hb), fun b B hb => (by simp [Tr.get] at hb), fun b B hb => (by simp [Tr.get] at hb), fun b B hb => (by simp [Tr.get] at hb), fun b b' B B' hb => (by simp [Tr.get] at hb), Upd.refl _ _,
    fun g o hg => (by simp [env0] at hg), fun b B hb => (by simp [Tr.get] at hb)⟩

/-- A CALL, EVALUATED: with no argument, from nothing. -/
theorem call_ok (hN : NoCount P G) {D : Ih (AV × Heap × Nat) → Ih (AV × Heap × Nat)} (hD : ∀ ih, IhOk P G ih → IhOk P G (D ih)) {fuel : Nat} {f : FuncId} {v : AV} {H' : Heap} {n' : Nat}
    (hb : ∀ fn, P.funcs[f]? = some fn → fn.body ≠ none) (h : evCall P G (ev P G D fuel) f [] .lf 0 (fun v H n => some (v, H, n)) = some (v, H', n')) (w : World) (hG : GlobOk G w) :
    Calls P f #[] w fun e w' => ∃ ρ', e = .returned (conc ρ' v) ∧ v.lt n' ∧ Rep ρ' H' n' w w' := by
  obtain ⟨v1, H1, n1, h1, fn, hfn, ⟨_, hd⟩ | ⟨hno, _⟩⟩ := evCall_ok hN (ev_ok hN hD fuel) h
  rotate_left
  · exact absurd hno (hb fn hfn)
  cases h1
  have hR := Rep.start w
  refine (hd _ w w hG hR (by simp [ltAll])).mono fun e w' he => ?_
  obtain ⟨ρ', e1, _, _, e4, e5⟩ := he
  exact ⟨ρ', e1, e4, e5⟩
end
end Go.Proofs.YtnllmelmmcapcaaGreatDoor.Ev
