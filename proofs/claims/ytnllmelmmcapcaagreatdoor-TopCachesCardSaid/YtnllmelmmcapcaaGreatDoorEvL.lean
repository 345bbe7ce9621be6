/- The operations that read no memory: they run the same in every world. -/
import Derived.Test.YtnllmelmmcapcaaGreatDoorEvK
namespace Go.Proofs.YtnllmelmmcapcaaGreatDoor.Ev
open Go Go.RowKit
set_option linter.unusedVariables false

section
variable {R : Type} {P : Program} {G : Gl} {r : R}

/-- It yields v in every world. -/
def OpPure (P : Program) (o : Oper) (tm : Tr AV) (H : Heap) (n : Nat) (v : AV) : Prop :=
  ∀ ρ w0 N a w, RepT ρ n N tm a → Rep ρ H n w0 w → v.lt n ∧ ∀ w', (execOp a.eval o).run P w' = .ok (.value (conc ρ v)) w'

theorem opPure_of {o : Oper} {tm : Tr AV} {H : Heap} {n : Nat} {v : AV}
    (h : ∀ ρ w0 N a w, RepT ρ n N tm a → Rep ρ H n w0 w → ∀ w', v.lt n ∧ (execOp a.eval o).run P w' = .ok (.value (conc ρ v)) w') : OpPure P o tm H n v :=
  fun ρ w0 N a w hT hR => ⟨(h ρ w0 N a w hT hR w).1, fun w' => (h ρ w0 N a w hT hR w').2⟩

def pureB : Builtin → Bool
  | .len | .cap | .min | .max => true
  | _ => false

theorem evBuiltinPure_ok {b : Builtin} {ts : Array TypeId} {ty : TypeId} {cs : Array Bool} {l : List AV} {H : Heap} {n : Nat} {k : AV → Heap → Nat → Option R} (hb : pureB b = true) (h : evBuiltin P b ts.toList l H n k = some r) :
    ∃ v, k v H n = some r ∧ ∀ ρ m, ltAll m l → (∀ w, (builtin b ts ty cs (concs ρ l).toArray).run P w = .ok (.value (conc ρ v)) w) ∧ v.lt m := by
  obtain ⟨ts⟩ := ts
  unfold evBuiltin at h
  split at h
  · cases hb
  · cases hb
  · cases hb
  · rename_i t x hts
    obtain rfl : ts = [t] := hts
    obtain ⟨v, h, h1, h2⟩ := evLen_ok (ty := ty) h
    exact ⟨v, h, fun ρ m hlt => ⟨fun w => by simp only [builtin, concs]; exact run_v (h1 ρ w), h2 m hlt⟩⟩
  · rename_i t x hts
    obtain rfl : ts = [t] := hts
    obtain ⟨v, h, h1, h2⟩ := evCap_ok (ty := ty) h
    exact ⟨v, h, fun ρ m hlt => ⟨fun w => by simp only [builtin, concs]; exact run_v (h1 ρ w), h2 m hlt⟩⟩
  · rename_i x l
    obtain ⟨v, h, h1, h2⟩ := evMins_ok (P := P) l h
    refine ⟨v, h, fun ρ m hlt => ⟨fun w => ?_, h2 m (by simp only [ltAll] at hlt; exact hlt.1)⟩⟩
    simp only [builtin, concs, Builtin.min_]
    exact run_v (by simpa using h1 ρ w)
  · rename_i x l
    obtain ⟨v, h, h1, h2⟩ := evMins_ok (P := P) l h
    refine ⟨v, h, fun ρ m hlt => ⟨fun w => ?_, h2 m (by simp only [ltAll] at hlt; exact hlt.1)⟩⟩
    simp only [builtin, concs, Builtin.max_]
    exact run_v (by simpa using h1 ρ w)
  · cases h

set_option maxHeartbeats 1000000 in
theorem evPure_ok {ih : Ih R} {o : Oper} {tm : Tr AV} {H : Heap} {n : Nat} {k : AV → Heap → Nat → Option R} (hc : opCls P o.op = 0)
    (h : evOp P G ih o tm H n k = some r) : ∃ v, k v H n = some r ∧ OpPure P o tm H n v := by
  unfold evOp at h
  cases ho : o.op <;> rw [ho] at h hc <;> simp only at h
  case move x =>
    obtain ⟨v, h, hv⟩ := opd_ok h
    refine ⟨v, h, opPure_of fun ρ w0 N a w0_ hT hR w => ?_⟩
    obtain ⟨h1, h2⟩ := hv ρ n N a hT
    exact ⟨h2, by simp [execOp, ho, h1]⟩
  case assign x =>
    obtain ⟨v, h, hv⟩ := opd_ok h
    refine ⟨v, h, opPure_of fun ρ w0 N a w0_ hT hR w => ?_⟩
    obtain ⟨h1, h2⟩ := hv ρ n N a hT
    exact ⟨h2, by simp [execOp, ho, h1]⟩
  case pick c x y =>
    obtain ⟨cv, h, hc⟩ := opd_ok h
    obtain ⟨xv, h, hx⟩ := opd_ok h
    obtain ⟨yv, h, hy⟩ := opd_ok h
    cases cv with
    | bool b =>
      cases b with
      | true =>
        refine ⟨xv, h, opPure_of fun ρ w0 N a w0_ hT hR w => ?_⟩
        obtain ⟨h1, _⟩ := hc ρ n N a hT
        obtain ⟨h3, h4⟩ := hx ρ n N a hT
        exact ⟨h4, by simp [execOp, ho, h1, h3, conc, asBool]⟩
      | false =>
        refine ⟨yv, h, opPure_of fun ρ w0 N a w0_ hT hR w => ?_⟩
        obtain ⟨h1, _⟩ := hc ρ n N a hT
        obtain ⟨h3, h4⟩ := hy ρ n N a hT
        exact ⟨h4, by simp [execOp, ho, h1, h3, conc, asBool]⟩
    | _ => cases h
  case build t ps =>
    obtain ⟨vs, h, hp⟩ := opdP_ok h
    obtain ⟨v, h, h1, h2⟩ := evBuild_ok h
    refine ⟨v, h, opPure_of fun ρ w0 N a w0_ hT hR w => ?_⟩
    obtain ⟨h3, h4⟩ := hp ρ n N a hT
    refine ⟨h2 n h4, ?_⟩
    have e : (ps.map fun (x : Nat × Operand) => (x.1, a.eval x.2)) = (vs.map fun x => (x.1, conc ρ x.2)).toArray := by rw [← h3]; apply Array.ext'; simp
    simp only [execOp, ho]
    exact run_v (by rw [← h1 ρ w]; congr 2)
  case nilCheck x =>
    obtain ⟨v, h, hv⟩ := opd_ok h
    have hk : k v H n = some r ∧ ((∃ b o, v = .ptr b o) ∨ (∃ g o, v = .glob g o) ∨ (∃ t u, v = .iface t u) ∨ ∃ f x y, v = .fn (.func f) x y) := by
      split at h
      · exact ⟨h, .inl ⟨_, _, rfl⟩⟩
      · exact ⟨h, .inr (.inl ⟨_, _, rfl⟩)⟩
      · exact ⟨h, .inr (.inr (.inl ⟨_, _, rfl⟩))⟩
      · exact ⟨h, .inr (.inr (.inr ⟨_, _, _, rfl⟩))⟩
      · cases h
    refine ⟨v, hk.1, opPure_of fun ρ w0 N a w0_ hT hR w => ?_⟩
    obtain ⟨h1, h2⟩ := hv ρ n N a hT
    refine ⟨h2, ?_⟩
    rcases hk.2 with ⟨b, o, rfl⟩ | ⟨g, o, rfl⟩ | ⟨t, u, rfl⟩ | ⟨f, x, y, rfl⟩ <;> simp [execOp, ho, h1, conc]
  case binOp op t x y yt =>
    obtain ⟨xv, h, hx⟩ := opd_ok h
    obtain ⟨yv, h, hy⟩ := opd_ok h
    obtain ⟨v, h, h1, h2⟩ := evBin2_ok h
    refine ⟨v, h, opPure_of fun ρ w0 N a w0_ hT hR w => ?_⟩
    obtain ⟨h3, _⟩ := hx ρ n N a hT
    obtain ⟨h4, _⟩ := hy ρ n N a hT
    exact ⟨h2 n, by simp only [execOp, ho, h3, h4]; exact run_v (h1 ρ w)⟩
  case unOp op t x =>
    obtain ⟨xv, h, hx⟩ := opd_ok h
    obtain ⟨v, h, h1, h2⟩ := evUn_ok (P := P) h
    refine ⟨v, h, opPure_of fun ρ w0 N a w0_ hT hR w => ?_⟩
    obtain ⟨h3, h4⟩ := hx ρ n N a hT
    exact ⟨h2 n (by simpa [ltAll] using h4), by simp only [execOp, ho, h3]; exact run_v (h1 ρ w)⟩
  case makeInterface t x =>
    obtain ⟨xv, h, hx⟩ := opd_ok h
    obtain ⟨d, hd, h⟩ := und_ok h
    have hk : k (.iface t xv) H n = some r ∧ ∀ ms, d ≠ .interface ms := by
      cases d with
      | interface ms => cases h
      | _ => exact ⟨h, fun ms => by simp⟩
    refine ⟨_, hk.1, opPure_of fun ρ w0 N a w0_ hT hR w => ?_⟩
    obtain ⟨h3, h4⟩ := hx ρ n N a hT
    refine ⟨by simpa [AV.lt] using h4, ?_⟩
    simp only [execOp, ho, h3]
    refine run_v ?_
    simp only [Instr.makeInterface, Sem.run_bind, run_underlying hd, Result.andThen_ok, conc]
    cases d <;> first | rfl | exact absurd rfl (hk.2 _)
  case makeFunc f x y =>
    obtain ⟨xs, h, _, hx⟩ := opds_ok h
    obtain ⟨ys, h, _, hy⟩ := opds_ok h
    refine ⟨_, h, opPure_of fun ρ w0 N a w0_ hT hR w => ?_⟩
    obtain ⟨h1, h2⟩ := hx ρ n N a hT
    obtain ⟨h3, h4⟩ := hy ρ n N a hT
    refine ⟨by simpa [AV.lt] using ⟨h2, h4⟩, ?_⟩
    have e1 : x.map a.eval = (concs ρ xs).toArray := by rw [← h1]; apply Array.ext'; simp
    have e2 : y.map a.eval = (concs ρ ys).toArray := by rw [← h3]; apply Array.ext'; simp
    simp only [execOp, ho, Instr.makeFunc, e1, e2, conc]
    rfl
  case slice t x lo hi mx =>
    obtain ⟨xv, h, hx⟩ := opd_ok h
    obtain ⟨lv, h, hl⟩ := opdO_ok h
    obtain ⟨hv, h, hh⟩ := opdO_ok h
    obtain ⟨mv, h, hm⟩ := opdO_ok h
    obtain ⟨v, h, hs⟩ := evSlice_ok h
    refine ⟨v, h, opPure_of fun ρ w0 N a w0_ hT hR w => ?_⟩
    obtain ⟨h1, h2⟩ := hx ρ n N a hT
    obtain ⟨h3, h4⟩ := hs ρ n w0 w0_ hR
    refine ⟨h4 h2, ?_⟩
    simp only [execOp, ho, h1, (hl ρ n N a hT).1, (hh ρ n N a hT).1, (hm ρ n N a hT).1]
    exact run_v (h3 w)
  case fieldAddr t x f =>
    obtain ⟨xv, h, hx⟩ := opd_ok h
    obtain ⟨v, h, h1, h2⟩ := evFieldAddr_ok h
    refine ⟨v, h, opPure_of fun ρ w0 N a w0_ hT hR w => ?_⟩
    obtain ⟨h3, h4⟩ := hx ρ n N a hT
    exact ⟨h2 n (by simpa [ltAll] using h4), by simp only [execOp, ho, h3]; exact run_v (h1 ρ w)⟩
  case field t x f =>
    obtain ⟨xv, h, hx⟩ := opd_ok h
    obtain ⟨v, h, h1, h2⟩ := evField_ok h
    refine ⟨v, h, opPure_of fun ρ w0 N a w0_ hT hR w => ?_⟩
    obtain ⟨h3, h4⟩ := hx ρ n N a hT
    exact ⟨h2 n (by simpa [ltAll] using h4), by simp only [execOp, ho, h3]; exact run_v (h1 ρ w)⟩
  case indexAddr t x i =>
    obtain ⟨xv, h, hx⟩ := opd_ok h
    obtain ⟨iv, h, hi⟩ := opd_ok h
    obtain ⟨v, h, h1, h2⟩ := evIndexAddr_ok h
    refine ⟨v, h, opPure_of fun ρ w0 N a w0_ hT hR w => ?_⟩
    obtain ⟨h3, h4⟩ := hx ρ n N a hT
    obtain ⟨h5, h6⟩ := hi ρ n N a hT
    exact ⟨h2 n (by simpa [ltAll] using ⟨h4, h6⟩), by simp only [execOp, ho, h3, h5]; exact run_v (h1 ρ w)⟩
  case index t x i =>
    obtain ⟨xv, h, hx⟩ := opd_ok h
    obtain ⟨iv, h, hi⟩ := opd_ok h
    obtain ⟨v, h, h1, h2⟩ := evIndex_ok h
    refine ⟨v, h, opPure_of fun ρ w0 N a w0_ hT hR w => ?_⟩
    obtain ⟨h3, h4⟩ := hx ρ n N a hT
    obtain ⟨h5, h6⟩ := hi ρ n N a hT
    exact ⟨h2 n (by simpa [ltAll] using ⟨h4, h6⟩), by simp only [execOp, ho, h3, h5]; exact run_v (h1 ρ w)⟩
  case extract x i =>
    obtain ⟨xv, h, hx⟩ := opd_ok h
    cases xv with
    | tup l =>
      obtain ⟨v, hv, h⟩ := lgetL h
      refine ⟨v, h, opPure_of fun ρ w0 N a w0_ hT hR w => ?_⟩
      obtain ⟨h3, h4⟩ := hx ρ n N a hT
      refine ⟨ltAll_get (by simpa [AV.lt] using h4) hv, ?_⟩
      simp only [execOp, ho, h3, conc]
      exact run_v (by simp [Instr.extract, concs_get, hv])
    | _ => cases h
  case convert s d x =>
    have hk : ∃ ks kd, P.underlying s = some (.int ks) ∧ P.underlying d = some (.int kd) := by
      have hc : (match P.underlying s, P.underlying d with | some (.int _), some (.int _) => 0 | _, _ => 2) = 0 := hc
      split at hc
      · rename_i h1 h2; exact ⟨_, _, h1, h2⟩
      · cases hc
    obtain ⟨ks, kd, hs, hd⟩ := hk
    obtain ⟨xv, h, hx⟩ := opd_ok h
    unfold evConvert at h
    obtain ⟨ds, hs', h⟩ := und_ok h
    obtain ⟨dd, hd', h⟩ := und_ok h
    rw [hs] at hs'; rw [hd] at hd'
    cases hs'; cases hd'
    cases xv with
    | int kx m =>
      change intK _ _ = _ at h
      rw [intK_eq] at h
      refine ⟨_, h, opPure_of fun ρ w0 N a w0_ hT hR w => ?_⟩
      obtain ⟨h3, h4⟩ := hx ρ n N a hT
      refine ⟨by simp [AV.lt], ?_⟩
      simp only [execOp, ho, h3]
      exact run_v (by simp [convert, run_underlying hs, run_underlying hd, conc, Conv.intToInt])
    | _ => cases h
  case call c =>
    have h : evCallOp P G ih c tm H n k = some r := h
    unfold evCallOp at h
    obtain ⟨args, h, hal, hargs⟩ := opds_ok h
    have hA : ∀ ρ N a, RepT ρ n N tm a → c.args.map a.eval = (concs ρ args).toArray ∧ ltAll n args := fun ρ N a hT => by
      obtain ⟨h1, h2⟩ := hargs ρ n N a hT
      exact ⟨by rw [← h1]; apply Array.ext'; simp, h2⟩
    cases hcc : c.callee with
    | builtin b =>
      rw [hcc] at h
      have hc : (match c.callee with | .builtin .len | .builtin .cap | .builtin .min | .builtin .max => 0 | _ => 2) = 0 := hc
      rw [hcc] at hc
      have hp := evBuiltinPure_ok (ty := o.type) (cs := c.args.map fun | .const _ => true | _ => false) (by cases b <;> first | rfl | cases hc) h
      obtain ⟨v, h, hb⟩ := hp
      refine ⟨v, h, opPure_of fun ρ w0 N a w0_ hT hR w => ?_⟩
      obtain ⟨e1, e2⟩ := hA ρ N a hT
      obtain ⟨f1, f2⟩ := hb ρ n e2
      refine ⟨f2, ?_⟩
      simp only [execOp, ho, resolve, hcc, Sem.run_bind, Sem.run_pure, Result.andThen_ok, invoke, e1]
      exact f1 w
    | _ =>
      have hc : (match c.callee with | .builtin .len | .builtin .cap | .builtin .min | .builtin .max => 0 | _ => 2) = 0 := hc
      rw [hcc] at hc
      cases hc
  all_goals (exfalso; simp [opCls] at hc)
end
end Go.Proofs.YtnllmelmmcapcaaGreatDoor.Ev
