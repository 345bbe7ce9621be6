/- Operations: what the evaluator says of them holds. -/
import Derived.Test.YtnllmelmmcapcaaGreatDoorEvX
namespace Go.Proofs.YtnllmelmmcapcaaGreatDoor.Ev
open Go Go.RowKit
set_option linter.unusedVariables false

section
variable {R : Type} {P : Program} {G : Gl} {r : R}

/-- What a piece of code comes to. -/
def CodeDoes (P : Program) (G : Gl) (N : Nat) (c : Code) (tm : Tr AV) (H : Heap) (n : Nat) (e : Exit) (tm' : Tr AV) (H' : Heap) (n' : Nat) : Prop :=
  ∀ ρ w0 a w, GlobOk G w0 → RepT ρ n N tm a → Rep ρ H n w0 w → c.wp P (fun e' a' w' => e' = e ∧ ∃ ρ', Ext n ρ ρ' ∧ n ≤ n' ∧ RepT ρ' n' N tm' a' ∧ Rep ρ' H' n' w0 w') a w

/-- The ways out that the evaluator knows. -/
def ExOk : Exit → Prop
  | .panic _ => False
  | .outgrown => False
  | _ => True

def IhOk (P : Program) (G : Gl) (ih : Ih R) : Prop :=
  ∀ {N : Nat} {c : Code} {tm : Tr AV} {H : Heap} {n : Nat} {k : Exit → Tr AV → Heap → Nat → Option R} {r : R}, ih N c tm H n k = some r → ∃ e tm' H' n', k e tm' H' n' = some r ∧ ExOk e ∧ CodeDoes P G N c tm H n e tm' H' n'

/-- What a call comes to. -/
def CallDoes (P : Program) (G : Gl) (f : FuncId) (args : List AV) (H : Heap) (n : Nat) (v : AV) (H' : Heap) (n' : Nat) : Prop :=
  ∀ ρ w0 w, GlobOk G w0 → Rep ρ H n w0 w → ltAll n args → Calls P f (concs ρ args).toArray w fun e w' => ∃ ρ', e = .returned (conc ρ' v) ∧ Ext n ρ ρ' ∧ n ≤ n' ∧ v.lt n' ∧ Rep ρ' H' n' w0 w'

/-- What an operation comes to. -/
def OpDoes (P : Program) (G : Gl) (o : Oper) (tm : Tr AV) (H : Heap) (n : Nat) (v : AV) (H' : Heap) (n' : Nat) : Prop :=
  ∀ ρ w0 N a w, GlobOk G w0 → RepT ρ n N tm a → Rep ρ H n w0 w →
    o.wp P a w (fun a' w' => ∃ ρ', Ext n ρ ρ' ∧ n ≤ n' ∧ v.lt n' ∧ a' = a.put o.dst (conc ρ' v) ∧ Rep ρ' H' n' w0 w') (fun _ _ _ => False)

theorem initK_ok {l : List AV} {k : Tr AV → Option R} (h : initK l k = some r) : ∃ t, k t = some r ∧ ∀ i, t.get i = l[i]? := by
  have key : ∀ (l : List AV) (i : Nat) (t : Tr AV), (List.rec (motive := fun _ => Nat → Tr AV → Option R) (fun _ t => k t) (fun v _ ih i t => tset (some v) 24 t i fun t => natK (Nat.succ i) fun i => ih i t) l i t) = some r →
      ∃ t', k t' = some r ∧ ∀ j, t'.get j = if i ≤ j ∧ j < i + l.length then l[j - i]? else t.get j := by
    intro l
    induction l with
    | nil => exact fun i t h => ⟨t, h, fun j => by rw [if_neg (by simp)]⟩
    | cons v l ih =>
      intro i t h
      obtain ⟨t1, h1, hg⟩ := tset_some _ h
      obtain ⟨t2, h2, hg2⟩ := ih (i + 1) t1 h1
      refine ⟨t2, h2, fun j => ?_⟩
      rw [hg2, hg]
      by_cases e1 : i + 1 ≤ j ∧ j < i + 1 + l.length
      · rw [if_pos e1, if_pos (by simp; omega), show j - i = (j - (i + 1)) + 1 by omega, List.getElem?_cons_succ]
      · rw [if_neg e1]
        by_cases e2 : j = i
        · subst e2; rw [if_pos rfl, if_pos (by simp), Nat.sub_self]; rfl
        · rw [if_neg e2, if_neg (by simp; omega)]
  obtain ⟨t, h1, h2⟩ := key l 0 .lf h
  refine ⟨t, h1, fun i => ?_⟩
  rw [h2]
  by_cases hi : i < l.length
  · rw [if_pos (by omega), Nat.sub_zero]
  · rw [if_neg (by omega), List.getElem?_eq_none (by omega)]; rfl

/-- A result variable's value. -/
def resV (tmps : Array Value) : ResultVar → Sem Value
  | .tmp t => pure (tmps.getD t undef)
  | .cell a t => do loadVar t (← asAddr (tmps.getD a undef))

theorem run_mapM_list {α β : Type} {f : α → Sem β} {w : World} : ∀ {l : List α} {ys : List β}, ys.length = l.length → (∀ (i : Nat) x y, l[i]? = some x → ys[i]? = some y → (f x).run P w = .ok y w) → (l.mapM f).run P w = .ok ys w
  | [], [], _, _ => rfl
  | [], _ :: _, h, _ => by cases h
  | _ :: _, [], h, _ => by cases h
  | x :: l, y :: ys, h, hall => by
    rw [List.mapM_cons]
    simp only [Sem.run_bind, hall 0 x y rfl rfl, Result.andThen_ok, run_mapM_list (l := l) (ys := ys) (by simpa using h) (fun i a b ha hb => hall (i + 1) a b (by simpa using ha) (by simpa using hb))]
    rfl

theorem run_results {fn : Func} {tmps : Array Value} {w : World} {ys : List Value} (hl : ys.length = fn.results.toList.length) (hall : ∀ (i : Nat) x y, fn.results.toList[i]? = some x → ys[i]? = some y → (resV tmps x).run P w = .ok y w) :
    (results fn tmps).run P w = .ok (if h : ys.toArray.size = 1 then ys.toArray[0] else .tuple ys.toArray) w := by
  have e : results fn tmps = (do let vs ← fn.results.mapM (resV tmps); pure (if h : vs.size = 1 then vs[0] else .tuple vs)) := by
    have e1 : (fun (x : ResultVar) => (match x with | .tmp t => pure (tmps.getD t undef) | .cell a t => do loadVar t (← asAddr (tmps.getD a undef)) : Sem Value)) = resV tmps := by
      funext v
      cases v <;> rfl
    rw [← e1]
    rfl
  rw [e]
  have hm : ∀ rs : Array ResultVar, ys.length = rs.toList.length → (∀ (i : Nat) x y, rs.toList[i]? = some x → ys[i]? = some y → (resV tmps x).run P w = .ok y w) → (rs.mapM (resV tmps)).run P w = .ok ys.toArray w := by
    rintro ⟨rs⟩ h1 h2
    rw [List.mapM_toArray]
    simp only [Functor.map]
    have := run_mapM_list (P := P) (w := w) (l := rs) (ys := ys) (f := resV tmps) h1 h2
    simp [Sem.run_bind', this]
  simp only [Sem.run_bind, hm fn.results hl hall, Result.andThen_ok, Sem.run_pure]

theorem resultK_ok {v : ResultVar} {tm : Tr AV} {H : Heap} {k : AV → Option R} (h : resultK P G v tm H k = some r) :
    ∃ av, k av = some r ∧ ∀ ρ n N w0 a w, GlobOk G w0 → RepT ρ n N tm a → Rep ρ H n w0 w →
      (resV a.tmps v).run P w = .ok (conc ρ av) w ∧ av.lt n := by
  unfold resultK at h
  cases v with
  | tmp t =>
    change tget tm t _ = _ at h
    rw [tget_eq] at h
    cases hv : tm.get t with
    | none => rw [hv] at h; cases h
    | some v =>
      rw [hv] at h
      refine ⟨v, h, fun ρ n N w0 a w _ hT _ => ?_⟩
      obtain ⟨h1, h2⟩ := hT.tmp t v hv
      exact ⟨by simp [resV, Array.getD_eq_getD_getElem?, h2], h1⟩
  | cell b t =>
    change tget tm b _ = _ at h
    rw [tget_eq] at h
    cases hv : tm.get b with
    | none => rw [hv] at h; cases h
    | some v =>
      rw [hv] at h
      obtain ⟨av, hk, hl⟩ := evLoad_ok h
      refine ⟨av, hk, fun ρ n N w0 a w hG hT hR => ?_⟩
      obtain ⟨h1, h2⟩ := hT.tmp b v hv
      obtain ⟨h3, h4⟩ := hl ρ n w0 w hG hR
      refine ⟨?_, h4⟩
      have e : a.tmps.getD b undef = conc ρ v := by simp [Array.getD_eq_getD_getElem?, h2]
      simp only [resV, Sem.run_bind, e]
      cases v with
      | ptr c o => simpa [Instr.loadAt, Instr.sureAddr, conc, asAddr] using h3
      | glob g o => simpa [Instr.loadAt, Instr.sureAddr, conc, asAddr] using h3
      | _ => cases h

/-- What is asked of the program: the count of goroutines is not called; what has no text, and what is known by its contract, answers as the evaluator says. -/
structure NoCount (P : Program) (G : Gl) : Prop where
  cnt : ∀ (f : Nat) fn, P.funcs[f]? = some fn → (fn.name == "runtime.NumGoroutine") = false
  ext : ∀ (f : Nat) fn args v, P.funcs[f]? = some fn → fn.body = none → ExtSays P fn.name args v → ∀ ρ w, (callFunc f (concs ρ args).toArray).run P w = .ok (.value (conc ρ v)) w
  orc : ∀ (f : Nat) args H n v H' n', G.orc f args H n = some (v, H', n') → (∃ fn, P.funcs[f]? = some fn ∧ fn.body.isSome = true) ∧ CallDoes P G f args H n v H' n'
  lib : ∀ (f : Nat) fn args H n v, P.funcs[f]? = some fn → LibSays P G H fn.name args v → (∀ m, v.lt m) → fn.body.isSome = true ∧ CallDoes P G f args H n v H n

/-- A call: a function that is entered, or one that answers at once. -/
def CallOr (P : Program) (G : Gl) (f : FuncId) (args : List AV) (H : Heap) (n : Nat) (v : AV) (H' : Heap) (n' : Nat) : Prop :=
  ∃ fn, P.funcs[f]? = some fn ∧ ((fn.body.isSome = true ∧ CallDoes P G f args H n v H' n') ∨
    (fn.body = none ∧ H' = H ∧ n' = n ∧ (∀ m, v.lt m) ∧ ∀ ρ w, (callFunc f (concs ρ args).toArray).run P w = .ok (.value (conc ρ v)) w))

theorem evCall_ok (hN : NoCount P G) {ih : Ih R} (hih : IhOk P G ih) {f : FuncId} {args : List AV} {H : Heap} {n : Nat} {k : AV → Heap → Nat → Option R} (h : evCall P G ih f args H n k = some r) :
    ∃ v H' n', k v H' n' = some r ∧ CallOr P G f args H n v H' n' := by
  unfold evCall at h
  split at h
  · rename_i v H' n' ho
    obtain ⟨⟨fn, hfn, hb⟩, hd⟩ := hN.orc f args H n v H' n' ho
    exact ⟨v, H', n', h, fn, hfn, .inl ⟨hb, hd⟩⟩
  split at h
  · rename_i fn hfn
    cases hlib : isLib fn.name with
    | true =>
      rw [hlib, cond_true] at h
      obtain ⟨v, h, hs, hv⟩ := evLib_ok h
      obtain ⟨h1, h2⟩ := hN.lib f fn args H n v hfn hs hv
      exact ⟨v, H, n, h, fn, hfn, .inl ⟨h1, h2⟩⟩
    | false =>
    rw [hlib, cond_false] at h
    split at h
    · rename_i c hc
      obtain ⟨hle, h⟩ := cond_some h
      have hle := ble_le hle
      rw [llen_eq] at hle
      obtain ⟨tm, h, hget⟩ := initK_ok h
      obtain ⟨e, tm', H', n', h, _, hdoes⟩ := hih h
      have h2 : (lmap (fun (v : ResultVar) (k : AV → Option R) => resultK P G v tm' H' k) fn.results.toList fun l => (match l with
        | [v] => k v H' n'
        | l => k (.tup l) H' n')) = some r ∧ (e = .normal ∨ e = .ret) := by
        cases e with
        | normal => exact ⟨h, .inl rfl⟩
        | ret => exact ⟨h, .inr rfl⟩
        | _ => cases h
      obtain ⟨h, he⟩ := h2
      obtain ⟨l, h, hl, hall⟩ := lmap_some (Q := fun (v : ResultVar) (av : AV) => ∀ ρ n N w0 a w, GlobOk G w0 → RepT ρ n N tm' a → Rep ρ H' n w0 w →
        (resV a.tmps v).run P w = .ok (conc ρ av) w ∧ av.lt n) (fun x _ k r hx => resultK_ok hx) h
      obtain ⟨v, hv, hval⟩ : ∃ v, k v H' n' = some r ∧ ((∃ u, l = [u] ∧ v = u) ∨ ((∀ u, l ≠ [u]) ∧ v = .tup l)) := by
        match l, h with
        | [u], h => exact ⟨u, h, .inl ⟨u, rfl, rfl⟩⟩
        | [], h => exact ⟨_, h, .inr ⟨by simp, rfl⟩⟩
        | a :: b :: l, h => exact ⟨_, h, .inr ⟨by simp, rfl⟩⟩
      refine ⟨v, H', n', hv, fn, hfn, .inl ⟨by rw [hc]; rfl, fun ρ w0 w hG hR hlt => ?_⟩⟩
      refine calls_of_wp hfn hc (wp_mono (hdoes ρ w0 _ w hG ⟨by simp [concs_length]; omega, rfl, fun t v hv => ?_⟩ hR) fun e' a' w' hq => ?_)
      · rw [hget] at hv
        have ht := (List.getElem?_eq_some_iff.1 hv).1
        refine ⟨ltAll_get hlt hv, ?_⟩
        rw [Array.getElem?_append_left (by rw [List.size_toArray, concs_length]; exact ht), List.getElem?_toArray, concs_get, hv]; rfl
      · obtain ⟨rfl, ρ', he1, hn, hT, hR'⟩ := hq
        have hrs := run_results (P := P) (fn := fn) (tmps := a'.tmps) (w := w') (ys := concs ρ' l) (by rw [concs_length, hl]) (fun i x y hx hy => by
          rw [concs_get] at hy
          cases hv : l[i]? with
          | none => rw [hv] at hy; cases hy
          | some u => rw [hv] at hy; cases hy; exact (hall i x u hx hv ρ' n' _ w0 a' w' hG hT hR').1)
        have hll : ltAll n' l := ltAll_of hl fun i x y hx hy => (hall i x y hx hy ρ' n' _ w0 a' w' hG hT hR').2
        have hres : (results fn a'.tmps).run P w' = .ok (conc ρ' v) w' ∧ v.lt n' := by
          rw [hrs]
          rcases hval with ⟨u, rfl, rfl⟩ | ⟨hne, rfl⟩
          · exact ⟨by simp [concs], by simpa [ltAll] using hll⟩
          · refine ⟨?_, by simpa [AV.lt] using hll⟩
            rw [dif_neg]
            · simp only [conc]
            · intro e
              rw [List.size_toArray, concs_length] at e
              match l, e with
              | [u], _ => exact hne u rfl
        obtain ⟨hres, hvl⟩ := hres
        rcases he with rfl | rfl
        · exact ⟨hT.defers, _, hres, ρ', rfl, he1, hn, hvl, hR'⟩
        · exact ⟨hT.defers, _, hres, ρ', rfl, he1, hn, hvl, hR'⟩
    · rename_i hb
      obtain ⟨v, h, hs, hv⟩ := evExt_ok h
      exact ⟨v, H, n, h, fn, hfn, .inr ⟨hb, rfl, rfl, hv, hN.ext f fn args v hfn hb hs⟩⟩
  · cases h
end
end Go.Proofs.YtnllmelmmcapcaaGreatDoor.Ev
