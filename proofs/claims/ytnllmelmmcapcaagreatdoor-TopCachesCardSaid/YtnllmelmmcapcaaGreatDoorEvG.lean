/- Calls, code. -/
import Derived.Test.YtnllmelmmcapcaaGreatDoorEvF
namespace Go.Proofs.YtnllmelmmcapcaaGreatDoor.Ev
open Go Go.RowKit
set_option linter.unusedVariables false

section
variable {R : Type} {P : Program} {G : Gl} {r : R}

theorem callFunc_run (hN : NoCount P G) {f : FuncId} {fn : Func} (hf : P.funcs[f]? = some fn) (hb : fn.body.isSome = true) (args : Array Value) (w : World) : (callFunc f args).run P w = .ok (.enter f args) w := by
  have h1 := hN.cnt f fn hf
  have h2 : fn.body.isNone = false := by cases hb' : fn.body <;> simp [hb'] at hb ⊢
  simp only [callFunc, Sem.run_bind, program, Sem.run, Result.andThen_ok, hf, h1, h2, Bool.false_eq_true, if_false, Sem.run_pure]

/-- An operation that calls a function. -/
theorem enter_ok (hN : NoCount P G) {o : Oper} {tm : Tr AV} {H : Heap} {n : Nat} {f : FuncId} {args : List AV} {v : AV} {H' : Heap} {n' : Nat} (hd : CallOr P G f args H n v H' n')
    (h : ∀ ρ w0 N a w, GlobOk G w0 → RepT ρ n N tm a → Rep ρ H n w0 w → ltAll n args ∧ (execOp a.eval o).run P w = (callFunc f (concs ρ args).toArray).run P w) : OpDoes P G o tm H n v H' n' := by
  intro ρ w0 N a w hG hT hR
  obtain ⟨h1, h2⟩ := h ρ w0 N a w hG hT hR
  obtain ⟨fn, hf, ⟨hb, hd⟩ | ⟨hb, rfl, rfl, hv, hx⟩⟩ := hd
  · rw [callFunc_run hN hf hb] at h2
    unfold Oper.wp
    rw [h2]
    refine Calls.mono (hd ρ w0 w hG hR h1) fun e w' he => ?_
    obtain ⟨ρ', rfl, e1, e2, e3, e4⟩ := he
    exact ⟨ρ', e1, e2, e3, rfl, e4⟩
  · rw [hx] at h2
    unfold Oper.wp
    exact upon_false h2 ⟨ρ, Ext.refl _ _, Nat.le_refl _, hv _, rfl, hR⟩

theorem evMethod_ok {t : TypeId} {v : AV} {name : String} {H : Heap} {k : FuncId → AV → Option R} (h : evMethod P t v name H k = some r) :
    ∃ f rv, k f rv = some r ∧ (∀ ρ w, (method (P.types.size + Made.depth) t (conc ρ v) name).run P w = .ok (f, conc ρ rv) w) ∧ ∀ n, v.lt n → rv.lt n := by
  unfold evMethod at h
  split at h
  · rename_i i hi
    split at h
    · rename_i m hm
      split at h
      · rename_i f ptr hp hf
        have hrun : ∀ ρ w, (method (P.types.size + Made.depth) t (conc ρ v) name).run P w = (do let r ← receiverAt t (.val (conc ρ v)) ptr (if m.path.isEmpty then some ((name.splitOn ".").getLastD name) else none); pure (f, r) : Sem (FuncId × Value)).run P w := fun ρ w => by
          have e : method (P.types.size + Made.depth) t (conc ρ v) name = method ((P.types.size + 99) + 1) t (conc ρ v) name := rfl
          rw [e]
          generalize P.types.size + 99 = fuel
          rw [method]
          simp only [Sem.run_bind, run_info hi, Result.andThen_ok, hm, hp, follow, Sem.run_pure, hf]
        split at h
        · rename_i el hu
          refine ⟨f, v, h, fun ρ w => ?_, fun n hn => hn⟩
          rw [hrun]
          simp only [receiverAt, Sem.run_bind, run_underlying hu, Result.andThen_ok, Place.get, Sem.run_pure]
        · cases h
        · rename_i d hd hu
          refine ⟨f, v, h, fun ρ w => ?_, fun n hn => hn⟩
          rw [hrun]
          simp only [receiverAt, Sem.run_bind, run_underlying hu, Result.andThen_ok]
          cases d <;> first | (exfalso; exact hd _ rfl) | simp only [Place.get, Sem.run_pure, Result.andThen_ok]
        · cases h
      · cases h
    · cases h
  · cases h

theorem evBuiltin_ok {b : Builtin} {ts : Array TypeId} {ty : TypeId} {cs : Array Bool} {l : List AV} {H : Heap} {n : Nat} {k : AV → Heap → Nat → Option R} (h : evBuiltin P b ts.toList l H n k = some r) :
    ∃ v H' n', k v H' n' = some r ∧ ∀ ρ w0 w, Rep ρ H n w0 w → ltAll n l → ∃ ρ' w', Ext n ρ ρ' ∧ n ≤ n' ∧ (builtin b ts ty cs (concs ρ l).toArray).run P w = .ok (.value (conc ρ' v)) w' ∧ v.lt n' ∧ Rep ρ' H' n' w0 w' := by
  obtain ⟨ts⟩ := ts
  unfold evBuiltin at h
  split at h
  · rename_i t tx s x hts
    obtain rfl : ts = [t, tx] := hts
    obtain ⟨v, H', m', h, hd⟩ := evAppend_ok (ty := ty) h
    refine ⟨v, H', m', h, fun ρ w0 w hR hlt => ?_⟩
    obtain ⟨ρ', w', e1, e2, e3, e4, e5⟩ := hd ρ w0 w hR hlt
    exact ⟨ρ', w', e1, e2, by simp only [builtin, concs]; exact run_v e3, e4, e5⟩
  · rename_i t tx d s hts
    obtain rfl : ts = [t, tx] := hts
    obtain ⟨v, H', h, hd⟩ := evCopy_ok (tx := tx) (ty := ty) h
    refine ⟨v, H', n, h, fun ρ w0 w hR hlt => ?_⟩
    obtain ⟨ρ', w', e1, e2, e3, e4, e5⟩ := hd ρ w0 w hR hlt
    exact ⟨ρ', w', e1, e2, by simp only [builtin, concs]; exact run_v e3, e4, e5⟩
  · rename_i t x hts
    obtain rfl : ts = [t] := hts
    obtain ⟨H', h, hd⟩ := evClear_ok (ty := ty) h
    refine ⟨_, H', n, h, fun ρ w0 w hR hlt => ?_⟩
    obtain ⟨ρ', w', e1, e2, e3, e4, e5⟩ := hd ρ w0 w hR hlt
    exact ⟨ρ', w', e1, e2, by simp only [builtin, concs]; exact run_v e3, e4, e5⟩
  · rename_i t x hts
    obtain rfl : ts = [t] := hts
    obtain ⟨v, h, h1, h2⟩ := evLen_ok (ty := ty) h
    refine ⟨v, H, n, h, fun ρ w0 w hR hlt => ⟨ρ, w, Ext.refl _ _, Nat.le_refl _, by simp only [builtin, concs]; exact run_v (h1 ρ w), h2 n hlt, hR⟩⟩
  · rename_i t x hts
    obtain rfl : ts = [t] := hts
    obtain ⟨v, h, h1, h2⟩ := evCap_ok (ty := ty) h
    refine ⟨v, H, n, h, fun ρ w0 w hR hlt => ⟨ρ, w, Ext.refl _ _, Nat.le_refl _, by simp only [builtin, concs]; exact run_v (h1 ρ w), h2 n hlt, hR⟩⟩
  · rename_i x l
    obtain ⟨v, h, h1, h2⟩ := evMins_ok (P := P) l h
    refine ⟨v, H, n, h, fun ρ w0 w hR hlt => ⟨ρ, w, Ext.refl _ _, Nat.le_refl _, ?_, h2 n (by simp only [ltAll] at hlt; exact hlt.1), hR⟩⟩
    simp only [builtin, concs, Builtin.min_]
    exact run_v (by simpa using h1 ρ w)
  · rename_i x l
    obtain ⟨v, h, h1, h2⟩ := evMins_ok (P := P) l h
    refine ⟨v, H, n, h, fun ρ w0 w hR hlt => ⟨ρ, w, Ext.refl _ _, Nat.le_refl _, ?_, h2 n (by simp only [ltAll] at hlt; exact hlt.1), hR⟩⟩
    simp only [builtin, concs, Builtin.max_]
    exact run_v (by simpa using h1 ρ w)
  · cases h

theorem evInvoke_ok (hN : NoCount P G) {ih : Ih R} (hih : IhOk P G ih) {x : AV} {name : String} {args : List AV} {H : Heap} {n : Nat} {k : AV → Heap → Nat → Option R} (h : evInvoke P G ih x name args H n k = some r) :
    ∃ v H' n' f rv, k v H' n' = some r ∧ CallOr P G f (rv :: args) H n v H' n' ∧ (∀ n, x.lt n → rv.lt n) ∧ ∀ ρ w, (callMethod (conc ρ x) name (concs ρ args).toArray).run P w = (callFunc f (concs ρ (rv :: args)).toArray).run P w := by
  unfold evInvoke at h
  split at h
  · rename_i t v
    obtain ⟨f, rv, h, h1, h2⟩ := evMethod_ok h
    obtain ⟨u, H', n', h, hd⟩ := evCall_ok hN hih h
    refine ⟨u, H', n', f, rv, h, hd, fun n hn => h2 n (by simpa [AV.lt] using hn), fun ρ w => ?_⟩
    have e : (callMethod (.iface t (conc ρ v)) name (concs ρ args).toArray).run P w = (callFunc f (#[conc ρ rv] ++ (concs ρ args).toArray)).run P w := by
      simp only [callMethod, Sem.run_bind, program, Sem.run, h1 ρ w, Result.andThen_ok]
    simp only [conc, concs]
    rw [e]
    simp
  · cases h

theorem evCallOp_ok (hN : NoCount P G) {ih : Ih R} (hih : IhOk P G ih) {o : Oper} {c : Call} (ho : o.op = .call c) {tm : Tr AV} {H : Heap} {n : Nat} {k : AV → Heap → Nat → Option R} (h : evCallOp P G ih c tm H n k = some r) :
    ∃ v H' n', k v H' n' = some r ∧ OpDoes P G o tm H n v H' n' := by
  unfold evCallOp at h
  obtain ⟨args, h, hal, hargs⟩ := opds_ok h
  have hA : ∀ ρ N a, RepT ρ n N tm a → c.args.map a.eval = (concs ρ args).toArray ∧ ltAll n args := fun ρ N a hT => by
    obtain ⟨h1, h2⟩ := hargs ρ n N a hT
    exact ⟨by rw [← h1]; apply Array.ext'; simp, h2⟩
  cases hc : c.callee with
  | builtin b =>
    rw [hc] at h
    obtain ⟨v, H', n', h, hb⟩ := evBuiltin_ok (ty := o.type) (cs := c.args.map fun | .const _ => true | _ => false) h
    refine ⟨v, H', n', h, opDoes_of fun ρ w0 N a w hG hT hR => ?_⟩
    obtain ⟨e1, e2⟩ := hA ρ N a hT
    obtain ⟨ρ', w', f1, f2, f3, f4, f5⟩ := hb ρ w0 w hR e2
    refine ⟨ρ', w', f1, f2, f4, f5, ?_⟩
    simp only [execOp, ho, resolve, hc, Sem.run_bind, Sem.run_pure, Result.andThen_ok, invoke, e1]
    exact f3
  | invoke recv name =>
    rw [hc] at h
    obtain ⟨x, h, hx⟩ := opd_ok h
    obtain ⟨v, H', n', f, rv, h, hd, hrv, hrun⟩ := evInvoke_ok hN hih h
    refine ⟨v, H', n', h, enter_ok hN hd fun ρ w0 N a w hG hT hR => ?_⟩
    obtain ⟨e1, e2⟩ := hA ρ N a hT
    obtain ⟨e3, e4⟩ := hx ρ n N a hT
    refine ⟨by simp only [ltAll]; exact ⟨hrv n e4, e2⟩, ?_⟩
    simp only [execOp, ho, resolve, hc, Sem.run_bind, Sem.run_pure, Result.andThen_ok, invoke, e1, e3]
    have := hrun ρ w
    simpa using this
  | value f =>
    rw [hc] at h
    obtain ⟨fv, h, hf⟩ := opd_ok h
    split at h
    · rename_i g first captured
      rw [lapp_eq, lapp_eq] at h
      obtain ⟨v, H', n', h, hd⟩ := evCall_ok hN hih h
      refine ⟨v, H', n', h, enter_ok hN hd fun ρ w0 N a w hG hT hR => ?_⟩
      obtain ⟨e1, e2⟩ := hA ρ N a hT
      obtain ⟨e3, e4⟩ := hf ρ n N a hT
      simp only [AV.lt] at e4
      refine ⟨ltAll_app (ltAll_app e4.1 e2) e4.2, ?_⟩
      simp only [execOp, ho, resolve, hc, Sem.run_bind, Sem.run_pure, Result.andThen_ok, e1, e3, conc, Deferred.ofValue, invoke]
      congr 2
      simp [concs_eq]
    · rename_i name first captured
      rw [lapp_eq] at h
      cases hfa : first ++ args with
      | nil => rw [hfa] at h; cases h
      | cons x rest =>
        rw [hfa] at h
        obtain ⟨v, H', n', f', rv, h, hd, hrv, hrun⟩ := evInvoke_ok hN hih h
        refine ⟨v, H', n', h, enter_ok hN hd fun ρ w0 N a w hG hT hR => ?_⟩
        obtain ⟨e1, e2⟩ := hA ρ N a hT
        obtain ⟨e3, e4⟩ := hf ρ n N a hT
        simp only [AV.lt] at e4
        have hall := ltAll_app e4.1 e2
        rw [hfa] at hall
        simp only [ltAll] at hall ⊢
        refine ⟨⟨hrv n hall.1, hall.2⟩, ?_⟩
        have hcat : (concs ρ first).toArray ++ (concs ρ args).toArray = (conc ρ x :: concs ρ rest).toArray := by
          have : concs ρ first ++ concs ρ args = concs ρ (first ++ args) := by simp [concs_eq]
          rw [hfa] at this
          rw [List.append_toArray, this]; rfl
        simp only [execOp, ho, resolve, hc, Sem.run_bind, Sem.run_pure, Result.andThen_ok, e1, e3, conc, Deferred.ofValue, invoke, hcat]
        have := hrun ρ w
        simpa using this
    · cases h
end
end Go.Proofs.YtnllmelmmcapcaaGreatDoor.Ev
