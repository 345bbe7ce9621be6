/- Regions that draw their order: the whole. -/
import Derived.Test.YtnllmelmmcapcaaGreatDoorEvU
namespace Go.Proofs.YtnllmelmmcapcaaGreatDoor.Ev
open Go Go.RowKit
set_option linter.unusedVariables false

section
variable {R : Type} {P : Program} {G : Tr (List AV)}

theorem evDraw_ok (hm : P.follows .mixedOrders = true) (hN : NoCount P G) {ih : Ih R} (hih : IhOk P G ih) : IhOk P G (evDraw P G ih) := by
  intro N c tm H n k r h
  cases c with
  | region id ops draw =>
    cases draw with
    | false => cases h
    | true =>
      obtain ⟨l⟩ := ops
      obtain ⟨cs, hcs, h⟩ : ∃ cs, (drawCls P l.toArray fun cs => some cs) = some cs ∧ (evDr P G ih N l n l cs [] [] tm H n fun tm H n => k .normal tm H n) = some r := by
        have h : (match drawCls P l.toArray fun cs => some cs with
          | some cs => evDr P G ih N l n l cs [] [] tm H n fun tm H n => k .normal tm H n
          | none => none) = some r := h
        split at h
        · exact ⟨_, ‹_›, h⟩
        · cases h
      obtain ⟨cs', M, hcs', hlen, hsd, hls, hlex, hns, hall⟩ := drawCls_ok hcs
      cases hcs'
      have hcls : ClsOk P (fxOf cs M) l 0 cs := by
        intro i o c ho hc
        rw [Nat.zero_add]
        obtain ⟨_, h2⟩ := hall i o c (by simpa using ho) hc
        have heff : c ≠ 2 → c ≠ 3 → (fxOf cs M).eff i = false := fun n2 n3 => by
          cases e : (fxOf cs M).eff i with
          | false => rfl
          | true => rcases fxOf_eff.1 e with h | h <;> rw [hc] at h <;> cases h <;> contradiction
        refine ⟨fun e => ⟨?_, heff (by omega) (by omega), ?_⟩, fun e => ⟨heff (by omega) (by omega), ?_⟩, fun e => ?_, fun e => ⟨?_, ?_⟩⟩
        · omega
        · cases e' : (fxOf cs M).ls.contains i with
          | false => rfl
          | true => have := fxOf_mem.1 e'; rw [hc] at this; cases this; cases e
        · exact fxOf_mem.2 (by rw [hc, e])
        · exact fxOf_eff.2 (.inl (by rw [hc, e]))
        · exact fxOf_eff.2 (.inr (by rw [hc, e]))
        · cases e' : (fxOf cs M).es.contains i with
          | false => rfl
          | true => have := fxOf_mem.1 e'; rw [hc] at this; cases this; cases e
      obtain ⟨tm', H', n', L, h, _, hHs, hrest⟩ := evDr_ok (fun o _ {tm H n k r} h => evOp_ok (fun c ho {k r} h => evCallOp_ok hN hih ho h) h) l (fun o ho => ho) 0 cs hcls h
      have hread := hHs H (List.mem_cons_self ..) (fun x hx => by simp at hx)
      have hB := hlex.lexB l.length 0 (Array.replicate l.length false) (by simp) (by simp) (fun i hi => by
        have hi : i < l.length := by simpa using hi
        simp [hi])
      refine ⟨_, _, _, _, h, trivial, fun ρ w0 a w hG hT hR => wp_region_any hm ?_⟩
      have hcl : Closed (fxOf cs M) (Array.replicate l.length false) := fun j k hj _ => by rw [getD_replicate_false] at hj; cases hj
      have hC0 : InCls P G ρ n w0 L w.drew := ⟨ρ, H, n, Ext.refl _ _, Nat.le_refl _, hR.drew, hread⟩
      have h1 := wpAnyF_lex (C := InCls P G ρ n w0 L) (Q := fun a' w' => Left P w0 ρ n N .normal tm' H' n' .normal a' w') hsd hls hns l 0 (Array.replicate l.length false) a w.drew (by simp) (by simp)
        hcl (fun _ => hC0) hB (hrest ρ ρ w0 a w.drew w.drew H hG hR.drew hread (Nat.le_refl _) (Ext.refl _ _) hT hR.drew (fun x hx => by simp at hx) _ (fun ρ' a' w' e1 e2 e3 e4 => ⟨rfl, ρ', e1, e2, e3, e4⟩))
      have h2 := wpAny_of_F (Q' := Left P w0 ρ n N .normal tm' H' n') hsd hls (fun _ _ h => h) l.length (Array.replicate l.length false) a w.drew (by simp) hcl (fun _ => hC0) h1
      exact h2
  | _ => cases h
end
end Go.Proofs.YtnllmelmmcapcaaGreatDoor.Ev
