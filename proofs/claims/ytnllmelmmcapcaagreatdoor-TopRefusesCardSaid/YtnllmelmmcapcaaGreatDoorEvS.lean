/- Regions that draw their order: the walk ahead of the last effects, and the whole. -/
import Derived.Test.YtnllmelmmcapcaaGreatDoorEvQ
namespace Go.Proofs.YtnllmelmmcapcaaGreatDoor.Ev
open Go Go.RowKit
set_option linter.unusedVariables false

section
variable {R : Type} {P : Program} {G : Tr (List AV)} {r : R}

/-- A load reads so, wherever memory is as H tells. -/
def ReadsAt (P : Program) (G : Tr (List AV)) (x : Rd1) (H : Heap) : Prop :=
  ∀ ρ n w0 w, GlobOk G w0 → Rep ρ H n w0 w → (Instr.loadAt x.1 (conc ρ x.2.1)).run P w = .ok (conc ρ x.2.2) w ∧ x.2.2.lt n

/-- The class: memory is as some heap tells in which all of L reads so. -/
def InCls (P : Program) (G : Tr (List AV)) (ρ0 : Env) (n0 : Nat) (w0 : World) (L : List Rd1) (w : World) : Prop :=
  ∃ ρ H n, Ext n0 ρ0 ρ ∧ n0 ≤ n ∧ Rep ρ H n w0 w ∧ ∀ x ∈ L, ReadsAt P G x H

theorem readsK_ok {H : Heap} : ∀ {Ls : List Rd1} {k : Option R}, readsK P G H Ls k = some r → k = some r ∧ ∀ x ∈ Ls, ReadsAt P G x H
  | [], k, h => ⟨h, fun x hx => by simp at hx⟩
  | x :: Ls, k, h => by
    have h : (evLoad P G x.1 x.2.1 H fun u => cond (eqV u x.2.2) (readsK P G H Ls k) none) = some r := h
    obtain ⟨v, h, hv⟩ := evLoad_ok h
    obtain ⟨he, hr⟩ := cond_some h
    clear h
    have he := eqV_eq he
    subst he
    obtain ⟨h1, h2⟩ := readsK_ok hr
    refine ⟨h1, fun y hy => ?_⟩
    rcases List.mem_cons.1 hy with rfl | hy
    · exact hv
    · exact h2 y hy

theorem heapsK_ok {t : TypeId} {a v : AV} : ∀ {Hs : List Heap} {k : Option R}, heapsK P G Hs t a v k = some r → k = some r ∧ ∀ H ∈ Hs, ReadsAt P G (t, a, v) H
  | [], k, h => ⟨h, fun x hx => by simp at hx⟩
  | H :: Hs, k, h => by
    have h : (evLoad P G t a H fun u => cond (eqV u v) (heapsK P G Hs t a v k) none) = some r := h
    obtain ⟨u, h, hv⟩ := evLoad_ok h
    obtain ⟨he, hr⟩ := cond_some h
    clear h
    have he := eqV_eq he
    subst he
    obtain ⟨h1, h2⟩ := heapsK_ok hr
    refine ⟨h1, fun y hy => ?_⟩
    rcases List.mem_cons.1 hy with rfl | hy
    · exact hv
    · exact h2 y hy
end
end Go.Proofs.YtnllmelmmcapcaaGreatDoor.Ev
