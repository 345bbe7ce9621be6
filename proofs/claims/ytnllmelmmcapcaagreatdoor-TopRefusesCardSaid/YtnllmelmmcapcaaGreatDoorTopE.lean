/- TopRefuses: what the evaluator finds is what the call comes to. -/
import Derived.Test.YtnllmelmmcapcaaGreatDoorTopN
import Derived.Test.YtnllmelmmcapcaaGreatDoorProg
import Derived.Test.YtnllmelmmcapcaaGreatDoorMem
import Derived.BigQuiet
import Derived.WalkLawsBesides
import Derived.WalkSpells
namespace Go.Proofs.YtnllmelmmcapcaaGreatDoor
open Go Go.RowKit
set_option linter.unusedVariables false

def among (n : Int) (m : Int) : Int := (n % 18446744073709551616) % m

theorem among_range (n m : Int) (hm : 0 < m) : 0 ≤ among n m ∧ among n m < m := ⟨Int.emod_nonneg _ (by omega), Int.emod_lt_of_pos _ hm⟩

theorem among_any (n m : Int) (w : World) (h0 : 0 < m) (h1 : m ≤ 9223372036854775807) : Calls Tryz.prog 6 #[.int .i64 n, .int .i64 m] w fun e w' => e = .returned (.int .i64 (among n m)) ∧ w = w' := by
  have hr := among_range n m h0
  go_enter Tryz.func6, Tryz.ntmps6
  go_wp2
  go_ret
  refine ⟨ret_int ?_, rfl⟩
  have e1 : (IntKind.u64.wrap n).tmod m = among n m := by
    rw [IntKind.wrap_u64, Int.tmod_eq_emod_of_nonneg (Int.emod_nonneg _ (by omega))]; rfl
  rw [e1]
  exact IntWalk.wrap64_in _ (by omega)

end Go.Proofs.YtnllmelmmcapcaaGreatDoor
namespace Go.Proofs.YtnllmelmmcapcaaGreatDoor.Ev
open Go Go.RowKit
set_option linter.unusedVariables false

theorem c4_eq : Tryz.f4.body = some (.seq r0 (.seq r1 (.seq r2 r3))) := by kernel_rfl

theorem evC_ok {N : Nat} {c : Code} {tm : Tr AV} {H : Heap} {n : Nat} {k : Exit → Tr AV → Heap → Nat → Option Unit} {r : Unit} (h : evC N c tm H n k = some r) :
    ∃ e tm' H' n', k e tm' H' n' = some r ∧ ExOk e ∧ CodeDoes Tryz.prog GG N c tm H n e tm' H' n' :=
  ev_ok noCount (fun ih hih => evDraw2_ok (by kernel_rfl) noCount hih) 5000 h

noncomputable def r2l : List Oper := match r2 with | .region _ ops _ => ops.toList | _ => []
noncomputable def o0 : Oper := r2l.headD default
noncomputable def o1 : Oper := (r2l.drop 1).headD default
noncomputable def o2 : Oper := (r2l.drop 2).headD default
theorem r2_eq : r2 = .region 2 #[o0, o1, o2] false := by kernel_rfl
theorem o0_eq : o0.op = .move (.tmp 0) ∧ o0.dst = some 16 ∧ o0.guard = none := ⟨by kernel_rfl, by kernel_rfl, by kernel_rfl⟩
theorem o1_eq : o1.op = .call { callee := .value (.func 6), args := #[.tmp 16, .const (.int .i64 3)], argTypes := #[3, 3] } ∧ o1.dst = some 17 ∧ o1.guard = none := ⟨by kernel_rfl, by kernel_rfl, by kernel_rfl⟩
theorem o2_eq : o2.op = .assign (.tmp 17) ∧ o2.dst = some 0 ∧ o2.guard = none := ⟨by kernel_rfl, by kernel_rfl, by kernel_rfl⟩

theorem eval_tmp {a : Act} {t : Nat} {v : Value} (h : a.tmps[t]? = some v) : a.eval (.tmp t) = v := by
  simp [Act.eval, Array.getD_eq_getD_getElem?, h]

theorem three_wp {o0 o1 o2 : Oper} (o0_eq : o0.op = .move (.tmp 0) ∧ o0.dst = some 16 ∧ o0.guard = none)
    (o1_eq : o1.op = .call { callee := .value (.func 6), args := #[.tmp 16, .const (.int .i64 3)], argTypes := #[3, 3] } ∧ o1.dst = some 17 ∧ o1.guard = none) (o2_eq : o2.op = .assign (.tmp 17) ∧ o2.dst = some 0 ∧ o2.guard = none)
    {a : Act} {w : World} {Q : Exit → Act → World → Prop} (a0 : Int) (h0 : a.tmps[0]? = some (.int .i64 a0)) (hN : a.tmps.size = 107)
    (hQ : Q .normal (((a.put (some 16) (.int .i64 a0)).put (some 17) (.int .i64 (among a0 3))).put (some 0) (.int .i64 (among a0 3))) w) : wpList Tryz.prog #[o0, o1, o2] Q [o0, o1, o2] a w := by
  unfold wpList
  rw [if_pos (by simp [Region.wanted, o0_eq.2.2])]
  refine .inl (Oper.wp_noQ ?_)
  unfold Oper.wp
  have e0 : (execOp a.eval o0).run Tryz.prog w = .ok (.value (.int .i64 a0)) w := by simp [execOp, o0_eq.1, eval_tmp h0]
  refine upon_false e0 ?_
  rw [o0_eq.2.1]
  unfold wpList
  rw [if_pos (by simp [Region.wanted, o1_eq.2.2])]
  refine .inl (Oper.wp_noQ ?_)
  unfold Oper.wp
  have h1 : (a.put (some 16) (.int .i64 a0)).tmps[16]? = some (.int .i64 a0) := put_at (by omega)
  have e1 : (execOp (a.put (some 16) (.int .i64 a0)).eval o1).run Tryz.prog w = .ok (.enter 6 #[.int .i64 a0, .int .i64 3]) w := by
    have hc : (callFunc 6 #[.int .i64 a0, .int .i64 3]).run Tryz.prog w = .ok (.enter 6 #[.int .i64 a0, .int .i64 3]) w := callFunc_run noCount Tryz.func6 (by rfl) _ _
    have ea : (#[.tmp 16, .const (.int .i64 3)] : Array Operand).map (a.put (some 16) (.int .i64 a0)).eval = #[.int .i64 a0, .int .i64 3] := by
      have e3 : (a.put (some 16) (.int .i64 a0)).eval (.const (.int .i64 3)) = .int .i64 3 := rfl
      rw [List.map_toArray, List.map_cons, List.map_cons, List.map_nil, eval_tmp h1, e3]
    simp only [execOp, o1_eq.1, resolve, Sem.run_bind, ea]
    simp only [show (a.put (some 16) (.int .i64 a0)).eval (.func 6) = .func (.func 6) #[] #[] from rfl, Deferred.ofValue, invoke, Sem.run_pure, Result.andThen_ok, Array.empty_append, Array.append_empty]
    exact hc
  rw [e1]
  refine Calls.mono (among_any a0 3 w (by omega) (by omega)) fun e w' he => ?_
  obtain ⟨rfl, rfl⟩ := he
  show wpList Tryz.prog #[o0, o1, o2] Q [o2] ((a.put (some 16) (.int .i64 a0)).put o1.dst (.int .i64 (among a0 3))) w
  rw [o1_eq.2.1]
  unfold wpList
  rw [if_pos (by simp [Region.wanted, o2_eq.2.2])]
  refine .inl (Oper.wp_noQ ?_)
  unfold Oper.wp
  have h2 : ((a.put (some 16) (.int .i64 a0)).put (some 17) (.int .i64 (among a0 3))).tmps[17]? = some (.int .i64 (among a0 3)) := put_at (by simp [Act.put, hN])
  have e2 : (execOp ((a.put (some 16) (.int .i64 a0)).put (some 17) (.int .i64 (among a0 3))).eval o2).run Tryz.prog w = .ok (.value (.int .i64 (among a0 3))) w := by simp [execOp, o2_eq.1, eval_tmp h2]
  refine upon_false e2 ?_
  rw [o2_eq.2.1]
  exact hQ

theorem r2_wp {a : Act} {w : World} {Q : Exit → Act → World → Prop} (a0 : Int) (h0 : a.tmps[0]? = some (.int .i64 a0)) (hN : a.tmps.size = 107)
    (hQ : Q .normal (((a.put (some 16) (.int .i64 a0)).put (some 17) (.int .i64 (among a0 3))).put (some 0) (.int .i64 (among a0 3))) w) : r2.wp Tryz.prog Q a w := by
  rw [r2_eq]
  exact wp_region_list (three_wp o0_eq o1_eq o2_eq a0 h0 hN hQ)

theorem Rep.begin (ρ : Env) (hf : ∀ g, ρ.fr g = none) (w : World) : Rep ρ .lf 0 w w :=
  ⟨fun b B hb => (by simp [Tr.get] at hb), fun b B hb => (by simp [Tr.get] at hb), fun b B hb => (by simp [Tr.get] at hb), fun b B hb => (by simp [Tr.get] at hb), fun b b' B B' hb => (by simp [Tr.get] at hb), Upd.refl _ _,
    fun g o hg => (by rw [hf] at hg; cases hg), fun b B hb => (by simp [Tr.get] at hb)⟩

theorem topRefuses_ev {r : Nat} {web : Bool} (h : evTop r web = some ()) (w : World) (hG : GlobOk GG w) (a0 : Int) (hr : among a0 3 = (r : Int)) :
    Calls Tryz.prog 4 #[.int .i64 a0, .bool web] w fun e w' => e = .returned (.bool true) ∧ Upd [] w w' := by
  unfold evTop at h
  obtain ⟨tmA, h, gA⟩ := tset_some _ h
  obtain ⟨tmB, h, gB⟩ := tset_some _ h
  obtain ⟨x1, tm1, H1, n1, h, _, d1⟩ := evC_ok h
  cases x1 with
  | normal =>
    simp only at h
    obtain ⟨x2, tm2, H2, n2, h, _, d2⟩ := evC_ok h
    cases x2 with
    | normal =>
      simp only at h
      rw [tget_eq] at h
      have hat : tm2.get 0 = some (.any 0) ∧ (tset none 24 tm2 16 fun tm => tset none 24 tm 17 fun tm => tset (some (.int .i64 (.ofNat r))) 24 tm 0 fun tm =>
          evC 107 r3 tm H2 n2 fun e tm H n => (match e with
            | .ret => tget tm 4 fun o => (match o with | some (.bool true) => some () | _ => none)
            | _ => none)) = some () := by
        split at h
        · exact ⟨‹_›, h⟩
        · cases h
      obtain ⟨h20, h⟩ := hat
      obtain ⟨tmC, h, gC⟩ := tset_some _ h
      obtain ⟨tmD, h, gD⟩ := tset_some _ h
      obtain ⟨tmE, h, gE⟩ := tset_some _ h
      obtain ⟨x3, tm3, H3, n3, h, _, d3⟩ := evC_ok h
      cases x3 with
      | ret =>
        simp only at h
        rw [tget_eq] at h
        have h4 : tm3.get 4 = some (.bool true) := by
          split at h
          · assumption
          · cases h
        refine calls_of_wp Tryz.func4 c4_eq ?_
        have hR0 := Rep.begin { env0 with any := fun _ => .int .i64 a0 } (fun _ => rfl) w
        have hT0 : RepT { env0 with any := fun _ => .int .i64 a0 } 0 107 tmB { tmps := #[.int .i64 a0, .bool web] ++ Array.replicate (Tryz.f4.ntmps - 2) undef, defers := [] } := by
          have hn : Tryz.f4.ntmps = 107 := by rfl
          refine ⟨by rw [hn]; simp, rfl, fun t v hv => ?_⟩
          rw [gB] at hv
          by_cases e1 : t = 1
          · subst e1
            rw [if_pos rfl] at hv; cases hv
            exact ⟨by simp [AV.lt], by simp [conc]⟩
          · rw [if_neg e1, gA] at hv
            by_cases e0 : t = 0
            · subst e0
              rw [if_pos rfl] at hv; cases hv
              exact ⟨by simp [AV.lt], by simp [conc]⟩
            · rw [if_neg e0] at hv; simp [Tr.get] at hv
        refine wp_seq (wp_mono (d1 _ w _ w hG hT0 hR0) fun e a1 w1 hq => ?_)
        obtain ⟨rfl, ρ1, q1, l1, hT1, hR1⟩ := hq
        refine wp_seq (wp_mono (d2 ρ1 w a1 w1 hG hT1 hR1) fun e a2 w2 hq => ?_)
        obtain ⟨rfl, ρ2, q2, l2, hT2, hR2⟩ := hq
        have hany : ρ2.any 0 = .int .i64 a0 := by rw [q2.any, q1.any]
        have hs2 : a2.tmps.size = 107 := hT2.size
        refine wp_seq (r2_wp a0 (by have := (hT2.tmp 0 _ h20).2; simp only [conc] at this; rw [this, hany]) hs2 ?_)
        have hTE : RepT ρ2 n2 107 tmE (((a2.put (some 16) (.int .i64 a0)).put (some 17) (.int .i64 (among a0 3))).put (some 0) (.int .i64 (among a0 3))) := by
          have hTC := (hT2.erase gC).erase gD
          have g16 : tmD.get 16 = none := by rw [gD]; simp [gC]
          have g17 : tmD.get 17 = none := by rw [gD]; simp
          have hx := (hTC.fresh g16 (.int .i64 a0)).fresh g17 (.int .i64 (among a0 3))
          refine ⟨by simp [Act.put, hs2], by simp [Act.put, hT2.defers], fun t v hv => ?_⟩
          rw [gE] at hv
          by_cases e : t = 0
          · subst e
            rw [if_pos rfl] at hv; cases hv
            refine ⟨by simp [AV.lt], ?_⟩
            rw [put_at (by simp [Act.put, hs2]), hr]
            simp [conc]
          · rw [if_neg e] at hv
            obtain ⟨z1, z2⟩ := hx.tmp t v hv
            exact ⟨z1, by rw [put_ne (fun e' => e e'.symm)]; exact z2⟩
        refine wp_mono (d3 ρ2 w _ w2 hG hTE hR2) fun e a3 w3 hq => ?_
        obtain ⟨rfl, ρ3, q3, l3, hT3, hR3⟩ := hq
        have hres : (results Tryz.f4 a3.tmps).run Tryz.prog w3 = .ok (.bool true) w3 := by
          have := run_results (P := Tryz.prog) (fn := Tryz.f4) (tmps := a3.tmps) (w := w3) (ys := [.bool true]) (by rfl) (fun i x y hx hy => by
            have hl : Tryz.f4.results.toList = [.tmp 4] := by rfl
            rw [hl] at hx
            match i, hx, hy with
            | 0, hx, hy =>
              simp only [List.getElem?_cons_zero, Option.some.injEq] at hx hy
              subst hx hy
              have := (hT3.tmp 4 _ h4).2
              simp [resV, Array.getD_eq_getD_getElem?, this, conc])
          simpa using this
        exact ⟨hT3.defers, _, hres, rfl, hR3.upd⟩
      | _ => cases h
    | _ => cases h
  | _ => cases h
end Go.Proofs.YtnllmelmmcapcaaGreatDoor.Ev
