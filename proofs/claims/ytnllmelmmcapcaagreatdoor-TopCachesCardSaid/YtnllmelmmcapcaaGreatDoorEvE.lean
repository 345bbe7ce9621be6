/- Operations, regions in the text's order, code. -/
import Derived.Test.YtnllmelmmcapcaaGreatDoorEvY
namespace Go.Proofs.YtnllmelmmcapcaaGreatDoor.Ev
open Go Go.RowKit
set_option linter.unusedVariables false

section
variable {R : Type} {P : Program} {G : Gl} {r : R}

theorem upon_false {o : Oper} {a : Act} {next : Act → World → Prop} {x : Result Next} {u : Value} {w' : World} (h : x = .ok (.value u) w') (hk : next (a.put o.dst u) w') : o.upon P a next (fun _ _ _ => False) x := by
  subst h; exact hk

/-- An operation that yields a value. -/
theorem opDoes_of {o : Oper} {tm : Tr AV} {H : Heap} {n : Nat} {v : AV} {H' : Heap} {n' : Nat}
    (h : ∀ ρ w0 N a w, GlobOk G w0 → RepT ρ n N tm a → Rep ρ H n w0 w → ∃ ρ' w', Ext n ρ ρ' ∧ n ≤ n' ∧ v.lt n' ∧ Rep ρ' H' n' w0 w' ∧ (execOp a.eval o).run P w = .ok (.value (conc ρ' v)) w') : OpDoes P G o tm H n v H' n' := by
  intro ρ w0 N a w hG hT hR
  obtain ⟨ρ', w', h1, h2, h3, h4, h5⟩ := h ρ w0 N a w hG hT hR
  unfold Oper.wp
  exact upon_false h5 ⟨ρ', h1, h2, h3, rfl, h4⟩

/-- .. and leaves all as it is. -/
theorem opDoes_pure {o : Oper} {tm : Tr AV} {H : Heap} {n : Nat} {v : AV}
    (h : ∀ ρ w0 N a w, GlobOk G w0 → RepT ρ n N tm a → Rep ρ H n w0 w → v.lt n ∧ (execOp a.eval o).run P w = .ok (.value (conc ρ v)) w) : OpDoes P G o tm H n v H n :=
  opDoes_of fun ρ w0 N a w hG hT hR => by
    obtain ⟨h1, h2⟩ := h ρ w0 N a w hG hT hR
    exact ⟨ρ, w, Ext.refl _ _, Nat.le_refl _, h1, hR, h2⟩

theorem run_v {s : Sem Value} {u : Value} {w w' : World} (h : s.run P w = .ok u w') : (do pure (Next.value (← s)) : Sem Next).run P w = .ok (.value u) w' := by
  simp only [Sem.run_bind, h, Result.andThen_ok, Sem.run_pure]

set_option maxHeartbeats 1000000 in
theorem evOp_ok {ih : Ih R} {o : Oper} {tm : Tr AV} {H : Heap} {n : Nat} {k : AV → Heap → Nat → Option R}
    (hcall : ∀ c, o.op = .call c → ∀ {k : AV → Heap → Nat → Option R} {r : R}, evCallOp P G ih c tm H n k = some r → ∃ v H' n', k v H' n' = some r ∧ OpDoes P G o tm H n v H' n')
    (h : evOp P G ih o tm H n k = some r) : ∃ v H' n', k v H' n' = some r ∧ OpDoes P G o tm H n v H' n' := by
  unfold evOp at h
  cases ho : o.op <;> rw [ho] at h <;> simp only at h
  case move x =>
    obtain ⟨v, h, hv⟩ := opd_ok h
    refine ⟨v, H, n, h, opDoes_pure fun ρ w0 N a w hG hT hR => ?_⟩
    obtain ⟨h1, h2⟩ := hv ρ n N a hT
    exact ⟨h2, by simp [execOp, ho, h1]⟩
  case assign x =>
    obtain ⟨v, h, hv⟩ := opd_ok h
    refine ⟨v, H, n, h, opDoes_pure fun ρ w0 N a w hG hT hR => ?_⟩
    obtain ⟨h1, h2⟩ := hv ρ n N a hT
    exact ⟨h2, by simp [execOp, ho, h1]⟩
  case pick c x y =>
    obtain ⟨cv, h, hc⟩ := opd_ok h
    obtain ⟨xv, h, hx⟩ := opd_ok h
    obtain ⟨yv, h, hy⟩ := opd_ok h
    cases cv with
    | bool b =>
      cases b with
      | true =>
        refine ⟨xv, H, n, h, opDoes_pure fun ρ w0 N a w hG hT hR => ?_⟩
        obtain ⟨h1, _⟩ := hc ρ n N a hT
        obtain ⟨h3, h4⟩ := hx ρ n N a hT
        exact ⟨h4, by simp [execOp, ho, h1, h3, conc, asBool]⟩
      | false =>
        refine ⟨yv, H, n, h, opDoes_pure fun ρ w0 N a w hG hT hR => ?_⟩
        obtain ⟨h1, _⟩ := hc ρ n N a hT
        obtain ⟨h3, h4⟩ := hy ρ n N a hT
        exact ⟨h4, by simp [execOp, ho, h1, h3, conc, asBool]⟩
    | _ => cases h
  case alloc t =>
    obtain ⟨i, z, av, hi, hz, h, hc⟩ := zeroOf_ok h
    obtain ⟨H', h, hb⟩ := evBox_ok (P := P) h
    refine ⟨_, H', n + 1, h, opDoes_of fun ρ w0 N a w hG hT hR => ?_⟩
    obtain ⟨ρ', w', e1, e2, e3⟩ := hb ρ w0 w hR (hc.2 n)
    rw [hc.1] at e2
    exact ⟨ρ', w', e1, by omega, by simp [AV.lt], e3, by simp [execOp, ho, Instr.alloc, run_zero hi hz, e2, conc]⟩
  case box t x =>
    obtain ⟨v, h, hv⟩ := opd_ok h
    obtain ⟨H', h, hb⟩ := evBox_ok (P := P) h
    refine ⟨_, H', n + 1, h, opDoes_of fun ρ w0 N a w hG hT hR => ?_⟩
    obtain ⟨h1, h2⟩ := hv ρ n N a hT
    obtain ⟨ρ', w', e1, e2, e3⟩ := hb ρ w0 w hR h2
    exact ⟨ρ', w', e1, by omega, by simp [AV.lt], e3, by simp [execOp, ho, Instr.box, h1, e2, conc]⟩
  case build t ps =>
    obtain ⟨vs, h, hp⟩ := opdP_ok h
    obtain ⟨v, h, h1, h2⟩ := evBuild_ok h
    refine ⟨v, H, n, h, opDoes_pure fun ρ w0 N a w hG hT hR => ?_⟩
    obtain ⟨h3, h4⟩ := hp ρ n N a hT
    refine ⟨h2 n h4, ?_⟩
    have e : (ps.map fun (x : Nat × Operand) => (x.1, a.eval x.2)) = (vs.map fun x => (x.1, conc ρ x.2)).toArray := by rw [← h3]; apply Array.ext'; simp
    simp only [execOp, ho]
    exact run_v (by rw [← h1 ρ w]; congr 2)
  case buildSlice t len ps =>
    obtain ⟨vs, h, hp⟩ := opdP_ok h
    obtain ⟨H', h, hb⟩ := evBuildSlice_ok h
    refine ⟨_, H', n + 1, h, opDoes_of fun ρ w0 N a w hG hT hR => ?_⟩
    obtain ⟨h3, h4⟩ := hp ρ n N a hT
    obtain ⟨ρ', w', e1, e2, e3⟩ := hb ρ w0 w hR h4
    refine ⟨ρ', w', e1, by omega, by simp [AV.lt], e3, ?_⟩
    have e : (ps.map fun (x : Nat × Operand) => (x.1, a.eval x.2)) = (vs.map fun x => (x.1, conc ρ x.2)).toArray := by rw [← h3]; apply Array.ext'; simp
    simp only [execOp, ho]
    exact run_v (by rw [← e2]; congr 2)
  case load t x =>
    obtain ⟨av, h, hv⟩ := opd_ok h
    obtain ⟨v, h, hl⟩ := evLoad_ok h
    refine ⟨v, H, n, h, opDoes_pure fun ρ w0 N a w hG hT hR => ?_⟩
    obtain ⟨h1, h2⟩ := hv ρ n N a hT
    obtain ⟨h3, h4⟩ := hl ρ n w0 w hG hR
    exact ⟨h4, by simp only [execOp, ho, h1]; exact run_v h3⟩
  case store t x y =>
    obtain ⟨av, h, hv⟩ := opd_ok h
    obtain ⟨bv, h, hw⟩ := opd_ok h
    obtain ⟨H', h, hs⟩ := evStore_ok h
    refine ⟨_, H', n, h, fun ρ w0 N a w hG hT hR => ?_⟩
    obtain ⟨h1, h2⟩ := hv ρ n N a hT
    obtain ⟨h3, h4⟩ := hw ρ n N a hT
    obtain ⟨w', e1, e2⟩ := hs ρ n w0 w hR h4
    unfold Oper.wp
    have : (execOp a.eval o).run P w = .ok .skip w' := by simp [execOp, ho, h1, h3, e1]
    rw [this]
    exact ⟨ρ, Ext.refl _ _, Nat.le_refl _, by simp [AV.lt, ltAll], by simp [conc, concs, undef], e2⟩
  case nilCheck x =>
    obtain ⟨v, h, hv⟩ := opd_ok h
    have hk : k v H n = some r ∧ ((∃ b o, v = .ptr b o) ∨ (∃ g o, v = .glob g o) ∨ (∃ t u, v = .iface t u) ∨ ∃ f x y, v = .fn (.func f) x y) := by
      split at h
      · exact ⟨h, .inl ⟨_, _, rfl⟩⟩
      · exact ⟨h, .inr (.inl ⟨_, _, rfl⟩)⟩
      · exact ⟨h, .inr (.inr (.inl ⟨_, _, rfl⟩))⟩
      · exact ⟨h, .inr (.inr (.inr ⟨_, _, _, rfl⟩))⟩
      · cases h
    refine ⟨v, H, n, hk.1, opDoes_pure fun ρ w0 N a w hG hT hR => ?_⟩
    obtain ⟨h1, h2⟩ := hv ρ n N a hT
    refine ⟨h2, ?_⟩
    rcases hk.2 with ⟨b, o, rfl⟩ | ⟨g, o, rfl⟩ | ⟨t, u, rfl⟩ | ⟨f, x, y, rfl⟩ <;> simp [execOp, ho, h1, conc]
  case binOp op t x y yt =>
    obtain ⟨xv, h, hx⟩ := opd_ok h
    obtain ⟨yv, h, hy⟩ := opd_ok h
    obtain ⟨v, h, h1, h2⟩ := evBin2_ok h
    refine ⟨v, H, n, h, opDoes_pure fun ρ w0 N a w hG hT hR => ?_⟩
    obtain ⟨h3, _⟩ := hx ρ n N a hT
    obtain ⟨h4, _⟩ := hy ρ n N a hT
    exact ⟨h2 n, by simp only [execOp, ho, h3, h4]; exact run_v (h1 ρ w)⟩
  case unOp op t x =>
    obtain ⟨xv, h, hx⟩ := opd_ok h
    obtain ⟨v, h, h1, h2⟩ := evUn_ok (P := P) h
    refine ⟨v, H, n, h, opDoes_pure fun ρ w0 N a w hG hT hR => ?_⟩
    obtain ⟨h3, h4⟩ := hx ρ n N a hT
    exact ⟨h2 n (by simpa [ltAll] using h4), by simp only [execOp, ho, h3]; exact run_v (h1 ρ w)⟩
  case convert s d x =>
    obtain ⟨xv, h, hx⟩ := opd_ok h
    obtain ⟨v, H', n', h, hd⟩ := evConvert_ok h
    refine ⟨v, H', n', h, opDoes_of fun ρ w0 N a w hG hT hR => ?_⟩
    obtain ⟨h3, h4⟩ := hx ρ n N a hT
    obtain ⟨ρ', w', e1, e2, e3, e4, e5⟩ := hd ρ w0 w hR (by simpa [ltAll] using h4)
    exact ⟨ρ', w', e1, e2, e4, e5, by simp only [execOp, ho, h3]; exact run_v e3⟩
  case makeInterface t x =>
    obtain ⟨xv, h, hx⟩ := opd_ok h
    obtain ⟨d, hd, h⟩ := und_ok h
    have hk : k (.iface t xv) H n = some r ∧ ∀ ms, d ≠ .interface ms := by
      cases d with
      | interface ms => cases h
      | _ => exact ⟨h, fun ms => by simp⟩
    refine ⟨_, H, n, hk.1, opDoes_pure fun ρ w0 N a w hG hT hR => ?_⟩
    obtain ⟨h3, h4⟩ := hx ρ n N a hT
    refine ⟨by simpa [AV.lt] using h4, ?_⟩
    simp only [execOp, ho, h3]
    refine run_v ?_
    simp only [Instr.makeInterface, Sem.run_bind, run_underlying hd, Result.andThen_ok, conc]
    cases d <;> first | rfl | exact absurd rfl (hk.2 _)
  case makeFunc f x y =>
    obtain ⟨xs, h, _, hx⟩ := opds_ok h
    obtain ⟨ys, h, _, hy⟩ := opds_ok h
    refine ⟨_, H, n, h, opDoes_pure fun ρ w0 N a w hG hT hR => ?_⟩
    obtain ⟨h1, h2⟩ := hx ρ n N a hT
    obtain ⟨h3, h4⟩ := hy ρ n N a hT
    refine ⟨by simpa [AV.lt] using ⟨h2, h4⟩, ?_⟩
    have e1 : x.map a.eval = (concs ρ xs).toArray := by rw [← h1]; apply Array.ext'; simp
    have e2 : y.map a.eval = (concs ρ ys).toArray := by rw [← h3]; apply Array.ext'; simp
    simp only [execOp, ho, Instr.makeFunc, e1, e2, conc]
    rfl
  case makeSlice t l c =>
    obtain ⟨lv, h, hl⟩ := opd_ok h
    obtain ⟨cv, h, hc⟩ := opd_ok h
    obtain ⟨ln, cn, H', h, hm⟩ := evMakeSlice_ok h
    refine ⟨_, H', n + 1, h, opDoes_of fun ρ w0 N a w hG hT hR => ?_⟩
    obtain ⟨h3, _⟩ := hl ρ n N a hT
    obtain ⟨h4, _⟩ := hc ρ n N a hT
    obtain ⟨ρ', w', e1, e2, e3⟩ := hm ρ w0 w hR
    exact ⟨ρ', w', e1, by omega, by simp [AV.lt], e3, by simp only [execOp, ho, h3, h4]; exact run_v e2⟩
  case slice t x lo hi mx =>
    obtain ⟨xv, h, hx⟩ := opd_ok h
    obtain ⟨lv, h, hl⟩ := opdO_ok h
    obtain ⟨hv, h, hh⟩ := opdO_ok h
    obtain ⟨mv, h, hm⟩ := opdO_ok h
    obtain ⟨v, h, hs⟩ := evSlice_ok h
    refine ⟨v, H, n, h, opDoes_pure fun ρ w0 N a w hG hT hR => ?_⟩
    obtain ⟨h1, h2⟩ := hx ρ n N a hT
    obtain ⟨h3, h4⟩ := hs ρ n w0 w hR
    refine ⟨h4 h2, ?_⟩
    simp only [execOp, ho, h1, (hl ρ n N a hT).1, (hh ρ n N a hT).1, (hm ρ n N a hT).1]
    exact run_v (h3 w)
  case fieldAddr t x f =>
    obtain ⟨xv, h, hx⟩ := opd_ok h
    obtain ⟨v, h, h1, h2⟩ := evFieldAddr_ok h
    refine ⟨v, H, n, h, opDoes_pure fun ρ w0 N a w hG hT hR => ?_⟩
    obtain ⟨h3, h4⟩ := hx ρ n N a hT
    exact ⟨h2 n (by simpa [ltAll] using h4), by simp only [execOp, ho, h3]; exact run_v (h1 ρ w)⟩
  case field t x f =>
    obtain ⟨xv, h, hx⟩ := opd_ok h
    obtain ⟨v, h, h1, h2⟩ := evField_ok h
    refine ⟨v, H, n, h, opDoes_pure fun ρ w0 N a w hG hT hR => ?_⟩
    obtain ⟨h3, h4⟩ := hx ρ n N a hT
    exact ⟨h2 n (by simpa [ltAll] using h4), by simp only [execOp, ho, h3]; exact run_v (h1 ρ w)⟩
  case indexAddr t x i =>
    obtain ⟨xv, h, hx⟩ := opd_ok h
    obtain ⟨iv, h, hi⟩ := opd_ok h
    obtain ⟨v, h, h1, h2⟩ := evIndexAddr_ok h
    refine ⟨v, H, n, h, opDoes_pure fun ρ w0 N a w hG hT hR => ?_⟩
    obtain ⟨h3, h4⟩ := hx ρ n N a hT
    obtain ⟨h5, h6⟩ := hi ρ n N a hT
    exact ⟨h2 n (by simpa [ltAll] using ⟨h4, h6⟩), by simp only [execOp, ho, h3, h5]; exact run_v (h1 ρ w)⟩
  case index t x i =>
    obtain ⟨xv, h, hx⟩ := opd_ok h
    obtain ⟨iv, h, hi⟩ := opd_ok h
    obtain ⟨v, h, h1, h2⟩ := evIndex_ok h
    refine ⟨v, H, n, h, opDoes_pure fun ρ w0 N a w hG hT hR => ?_⟩
    obtain ⟨h3, h4⟩ := hx ρ n N a hT
    obtain ⟨h5, h6⟩ := hi ρ n N a hT
    exact ⟨h2 n (by simpa [ltAll] using ⟨h4, h6⟩), by simp only [execOp, ho, h3, h5]; exact run_v (h1 ρ w)⟩
  case typeAssert x t at_ ok =>
    obtain ⟨xv, h, hx⟩ := opd_ok h
    obtain ⟨v, h, h1, h2⟩ := evAssert_ok (t := t) h
    refine ⟨v, H, n, h, opDoes_pure fun ρ w0 N a w hG hT hR => ?_⟩
    obtain ⟨h3, h4⟩ := hx ρ n N a hT
    exact ⟨h2 n h4, by simp only [execOp, ho, h3]; exact run_v (h1 ρ w)⟩
  case extract x i =>
    obtain ⟨xv, h, hx⟩ := opd_ok h
    cases xv with
    | tup l =>
      obtain ⟨v, hv, h⟩ := lgetL h
      refine ⟨v, H, n, h, opDoes_pure fun ρ w0 N a w hG hT hR => ?_⟩
      obtain ⟨h3, h4⟩ := hx ρ n N a hT
      refine ⟨ltAll_get (by simpa [AV.lt] using h4) hv, ?_⟩
      simp only [execOp, ho, h3, conc]
      exact run_v (by simp [Instr.extract, concs_get, hv])
    | _ => cases h
  case call c => exact hcall c ho h
  all_goals cases h
end
end Go.Proofs.YtnllmelmmcapcaaGreatDoor.Ev
